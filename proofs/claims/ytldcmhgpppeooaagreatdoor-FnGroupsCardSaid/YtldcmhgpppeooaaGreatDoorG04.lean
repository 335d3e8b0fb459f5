/- append of integers, of a row, inside a region that draws its order. The laws' draws: permutations, networks, lists; bytes of a code; equal lists. Worlds that only drew; an insertion into a list of rows under way. The laws' helpers: big, at, sameInts, sameWords. (Split off Draw3.) A code among the arguments, opened: its bytes. Plain law: how words, weights, roots and matrices are written. The reference's FormatInt, FormatWeight, FormatRoots, FormatCartan, FormatWord: contracts. Slices of strings of the call's own. -/
import Derived.Test.YtldcmhgpppeooaaGreatDoorG02
import Derived.Test.YtldcmhgpppeooaaGreatDoorG03
import Derived.Deep.Matrix
import Derived.Lib.SmallJoins
import Derived.Test.YtldcmhgpppeooaaGreatDoorG01
import Derived.Lib.Join
import Derived.Lib.ItoaLen
import Derived.Laws.Concat
import Derived.Laws.BytesString
namespace Go.Proofs.YtldcmhgpppeooaaGreatDoor
set_option maxRecDepth 100000
open Go.RowKit

theorem step_append_ints {ops : Array Oper} {W : World} {o : Oper} {a : Act} {K : Act → World → Prop} {Q : Exit → Act → World → Prop} {E : Prop} (hgd : o.guard = none) (s x : Operand)
    (ho : o.op = .call { callee := .builtin .append, args := #[s, x], argTypes := #[27, 27] })
    (B g cap n g2 o2 n2 c2 : Nat) (xs ys : List Int) (hn : xs.length = n) (hn2 : ys.length = n2) (hown : Own W B g cap xs) (hc : Cells W g2 o2 ys) (hs : a.eval s = (Value.slice (some ⟨g, 0, none⟩) n cap)) (hx : a.eval x = (Value.slice (some ⟨g2, o2, none⟩) n2 c2)) (hlen : n + n2 ≤ 1099511627776)
    (h : ∀ g' cap' w', Own w' B g' cap' (xs ++ ys) → W.grownBy w' (some g) → (g' = g ∨ g' = W.heap.size) → K (a.put o.dst (Value.slice (some ⟨g', 0, none⟩) (n + n2) cap')) w') :
    if Region.wanted o (yielded ops a.tmps) = true then Oper.wp Tryz.prog o a W K Q else E := by
  subst hn; subst hn2
  have hw : Region.wanted o (yielded ops a.tmps) = true := by simp [Region.wanted, hgd]
  rw [if_pos hw]
  obtain ⟨g', cap', w', hr, h1, h2, h3⟩ := run_append_ints hown hc (c2 := c2) hlen o.type
  unfold Oper.wp execOp
  simp only [ho, resolve, invoke, builtin, Sem.run_bind, Sem.run_pure, Result.andThen_ok, List.map_toArray, List.map_cons, List.map_nil, hs, hx, hr]
  exact h g' cap' w' h1 h2 h3

theorem step_append_intsA {ops : Array Oper} {W : World} {o : Oper} {a : Act} {K : Act → World → Prop} {Q : Exit → Act → World → Prop} {E : Prop} (hgd : o.guard = none) (s x : Operand)
    (ho : o.op = .call { callee := .builtin .append, args := #[s, x], argTypes := #[27, 27] })
    (B g cap n n2 c2 : Nat) (A : Option Addr) (xs ys : List Int) (hn : xs.length = n) (hn2 : ys.length = n2) (hown : Own W B g cap xs) (hs : a.eval s = (Value.slice (some ⟨g, 0, none⟩) n cap)) (hx : a.eval x = .slice A n2 c2) (hc : ∃ g2 o2, A = some ⟨g2, o2, none⟩ ∧ Cells W g2 o2 ys) (hlen : n + n2 ≤ 1099511627776)
    (h : ∀ g' cap' w', Own w' B g' cap' (xs ++ ys) → W.grownBy w' (some g) → (g' = g ∨ g' = W.heap.size) → K (a.put o.dst (Value.slice (some ⟨g', 0, none⟩) (n + n2) cap')) w') :
    if Region.wanted o (yielded ops a.tmps) = true then Oper.wp Tryz.prog o a W K Q else E := by
  obtain ⟨g2, o2, rfl, hc2⟩ := hc
  exact step_append_ints hgd s x ho B g cap n g2 o2 n2 c2 xs ys hn hn2 hown hc2 hs hx hlen h

theorem step_append_row {ops : Array Oper} {w : World} {o : Oper} {a : Act} {K : Act → World → Prop} {Q : Exit → Act → World → Prop} {E : Prop} (hgd : o.guard = none) (s x : Operand)
    (ho : o.op = .call { callee := .builtin .append, args := #[s, x], argTypes := #[24, 24] })
    (B g cap n H : Nat) (rs : List RowRef) (r : RowRef) (W : World) (hn : rs.length = n) (hW : W = w.alloc (.cells #[rowVal r] 27)) (hH : w.heap.size = H) (hown : OwnRows w B g cap rs) (hr : Own w B r.1 r.2.1 r.2.2) (hne : ∀ s ∈ rs, s.1 ≠ r.1)
    (hs : a.eval s = (Value.slice (some ⟨g, 0, none⟩) n cap)) (hx : a.eval x = (Value.slice (some ⟨H, 0, none⟩) 1 1)) (hlen : n + 1 ≤ 1048576)
    (h : ∀ g' cap' w', OwnRows w' B g' cap' (rs ++ [r]) → w.grownBy w' (some g) → (g' = g ∨ w.heap.size < g') → K (a.put o.dst (Value.slice (some ⟨g', 0, none⟩) (n + 1) cap')) w') :
    if Region.wanted o (yielded ops a.tmps) = true then Oper.wp Tryz.prog o a W K Q else E := by
  subst hn; subst hW; subst hH
  have hw : Region.wanted o (yielded ops a.tmps) = true := by simp [Region.wanted, hgd]
  rw [if_pos hw]
  have hl : (rs.map rowVal).length = rs.length := by simp
  obtain ⟨g', cap', w', hrun, h2, h3, h4⟩ := run_append_row hown.1 (rowVal r) rfl (by rw [hl]; exact hlen) o.type
  rw [hl] at hrun
  unfold Oper.wp execOp
  simp only [ho, resolve, invoke, builtin, Sem.run_bind, Sem.run_pure, Result.andThen_ok, List.map_toArray, List.map_cons, List.map_nil, hs, hx, hrun]
  exact h g' cap' w' (hown.push hr hne h2 h3) h3 h4
end Go.Proofs.YtldcmhgpppeooaaGreatDoor
namespace Go.Proofs.YtldcmhgpppeooaaGreatDoor
set_option maxRecDepth 100000
open Go.RowKit

set_option maxHeartbeats 1000000 in
theorem spec_l1Once_any (B p : Nat) (a : Option Addr) (n c : Nat) (m : Int) (w : World) (hm : 1 ≤ m ∧ m ≤ 256) (hn : n ≤ 1048576) (hc : CodeV w B a n) (hp : B ≤ p) (hcur : Cur w p a n c) :
    Calls Tryz.prog 80 #[.pointer (some ⟨p, 0, none⟩), .int .i64 m] w fun e w' => ∃ b : Bool, e = .returned (.bool b) ∧ Cur w' p a n c ∧ CodeV w' B a n ∧ Only p (p + 1) w w' := by
  have h1 := Lib.hid (spec_l1Below_any B p a n c m w hm hn hc hp hcur)
  clear hc hcur
  go_enter Tryz.func80, Tryz.ntmps80
  go_wp2_with fail
  refine h1.out.mono ?_
  rintro e w1 ⟨x, hx, rfl, hcur, hc, hO⟩
  go_wp2_with fail
  go_ret
  exact ⟨_, rfl, hcur, hc, hO⟩

theorem Only.grown {w w1 w2 : World} {p E g : Nat} (h : Only p E w w1) (k : w1.grownBy w2 (some g)) (hg : w.heap.size ≤ g) : Only p E w w2 :=
  ⟨k.os.trans h.os, k.tape.trans h.tape, k.output.trans h.output, Nat.le_trans h.size k.size, fun j hj hd => (k.block j (Nat.lt_of_lt_of_le hj h.size) (by intro e; cases e; omega)).trans (h.block j hj hd)⟩
theorem Cur.grown {w w' : World} {p g : Nat} {a : Option Addr} {n c : Nat} (h : Cur w p a n c) (k : w.grownBy w' (some g)) (hg : p < g) : Cur w' p a n c := by
  obtain ⟨i, x, hi, hb⟩ := h
  exact ⟨i, x, hi, (k.block p (lt_of_block hb) (by intro e; cases e; omega)).trans hb⟩
theorem CodeV.grown {w w' : World} {B g : Nat} {a : Option Addr} {n : Nat} (h : CodeV w B a n) (k : w.grownBy w' (some g)) (hg : B ≤ g) : CodeV w' B a n :=
  h.only (p := g) (E := g + 1) ⟨k.os, k.tape, k.output, k.size, fun j hj hd => k.block j hj (by intro e; cases e; omega)⟩ hg
theorem Only.below' {w w1 w2 : World} {p E b : Nat} (h : Only p E w w1) (k : Below b w1 w2) (hb : w.heap.size ≤ b) : Only p E w w2 :=
  ⟨k.os.trans h.os, k.tape.trans h.tape, k.output.trans h.output, Nat.le_trans h.size k.size, fun j hj hd => (k.block j (Nat.lt_of_lt_of_le hj hb)).trans (h.block j hj hd)⟩
theorem Cur.below' {w w' : World} {p b : Nat} {a : Option Addr} {n c : Nat} (h : Cur w p a n c) (k : Below b w w') (hb : p < b) : Cur w' p a n c := by
  obtain ⟨i, x, hi, hl⟩ := h
  exact ⟨i, x, hi, (k.block p hb).trans hl⟩
theorem CodeV.below' {w w' : World} {B b : Nat} {a : Option Addr} {n : Nat} (h : CodeV w B a n) (k : Below b w w') (hb : B ≤ b) : CodeV w' B a n := h.below (k.mono hb)
theorem mem_take_drop {P : Int → Prop} {R : List Int} {t : Nat} (h : ∀ z ∈ R, P z) : ∀ z ∈ ([] ++ R.take t) ++ R.drop (t + 1), P z := fun z hz => by
  rw [List.nil_append] at hz
  rcases List.mem_append.1 hz with q | q
  · exact h z (List.mem_of_mem_take q)
  · exact h z (List.mem_of_mem_drop q)

def lenOfD : Value → Nat | .slice _ n _ => n | _ => 0
end Go.Proofs.YtldcmhgpppeooaaGreatDoor
namespace Go.Proofs.YtldcmhgpppeooaaGreatDoor
set_option maxRecDepth 100000
namespace Game
end Game
open Go.RowKit

/-- a new list of rows of the call's own from block B0 on; the list itself is new -/
def GotPut (w : World) (B0 : Nat) (rows : List (List Int)) (e : Ending) (w' : World) : Prop :=
  ∃ g cap rs, e = .returned (Value.slice (some ⟨g, 0, none⟩) rows.length cap) ∧ contents rs = rows ∧ OwnRows w' B0 g cap rs ∧ w.heap.size ≤ g ∧ Below w.heap.size w w'

theorem GotPut.mk' {w w' : World} {B0 : Nat} {rows : List (List Int)} {n : Nat} (g cap : Nat) (rs : List RowRef) (hl : rs.length = n) (hc : contents rs = rows) (ho : OwnRows w' B0 g cap rs) (hg : w.heap.size ≤ g) (hb : Below w.heap.size w w') :
    GotPut w B0 rows (.returned (Value.slice (some ⟨g, 0, none⟩) n cap)) w' := by
  subst hl; subst hc
  exact ⟨g, cap, rs, by rw [contents_length], rfl, ho, hg, hb⟩

section
variable {w a b : World} {B B' : Nat}
theorem below_still (h : Below B w a) (hs : ∃ n, b = a.drewN n) : Below B w b := by obtain ⟨n, rfl⟩ := hs; exact below_drewN h n
theorem OwnRows.still {g cap : Nat} {rs : List RowRef} (h : OwnRows a B g cap rs) (hs : ∃ n, b = a.drewN n) : OwnRows b B g cap rs := by obtain ⟨n, rfl⟩ := hs; exact h
theorem Own.still {g cap : Nat} {xs : List Int} (h : Own a B g cap xs) (hs : ∃ n, b = a.drewN n) : Own b B g cap xs := by obtain ⟨n, rfl⟩ := hs; exact h
theorem OwnV.still {g cap : Nat} {E : TypeId} {xs : List Value} (h : OwnV a B E g cap xs) (hs : ∃ n, b = a.drewN n) : OwnV b B E g cap xs := by obtain ⟨n, rfl⟩ := hs; exact h
theorem Cells.still {g o : Nat} {xs : List Int} (h : Cells a g o xs) (hs : ∃ n, b = a.drewN n) : Cells b g o xs := by obtain ⟨n, rfl⟩ := hs; exact h
theorem Rows2.still {g o : Nat} {xs : List (List Int)} (h : Rows2 a g o xs) (hs : ∃ n, b = a.drewN n) : Rows2 b g o xs := by obtain ⟨n, rfl⟩ := hs; exact h
theorem size_still (hs : ∃ n, b = a.drewN n) : b.heap.size = a.heap.size := by obtain ⟨n, rfl⟩ := hs; rfl
theorem cell_still (hs : ∃ n, b = a.drewN n) (p : Addr) : b.cell? p = a.cell? p := by obtain ⟨n, rfl⟩ := hs; rfl
end

theorem still_trans {a b d : World} (h : ∃ n, b = a.drewN n) (k : ∃ n, d = b.drewN n) : ∃ n, d = a.drewN n := by
  obtain ⟨n, rfl⟩ := h
  obtain ⟨m, rfl⟩ := k
  exact ⟨n + m, by rw [World.drewN_drewN]⟩
/-- an insertion under way: H: the first new block; put: what an insertion gives -/
structure PutSt (put : List (List Int) → List (List Int)) (H : Nat) (rs : List RowRef) (i : Nat) (acc : List RowRef) (pl : Bool) : Prop where
  blocks : ∀ s ∈ acc, s ∈ rs.take i ∨ H ≤ s.1
  fin : contents acc ++ (if pl then contents (rs.drop i) else put (contents (rs.drop i))) = put (contents rs)
  len : acc.length ≤ i + 1
  lenF : pl = false → acc.length = i
section
variable {put : List (List Int) → List (List Int)} {H : Nat} {rs acc : List RowRef} {i : Nat} {pl : Bool}
theorem PutSt.start : PutSt put H rs 0 [] false := ⟨by simp, by simp [contents], by simp, by simp⟩
theorem contents_drop (rs : List RowRef) {i : Nat} (hi : i < rs.length) : contents (rs.drop i) = rs[i].2.2 :: contents (rs.drop (i + 1)) := by
  rw [List.drop_eq_getElem_cons hi]; rfl
theorem PutSt.step (h : PutSt put H rs i acc pl) (hi : i < rs.length) (new : List RowRef) (pl' : Bool) (hnew : ∀ s ∈ new, H ≤ s.1) (hl : acc.length + new.length ≤ i + 1) (hF : pl' = false → pl = false ∧ new = [])
    (hf : (if pl then contents (rs.drop i) else put (contents (rs.drop i))) = contents new ++ rs[i].2.2 :: (if pl' then contents (rs.drop (i + 1)) else put (contents (rs.drop (i + 1))))) :
    PutSt put H rs (i + 1) (acc ++ new ++ [rs[i]]) pl' := by
  refine ⟨?_, ?_, by simp; omega, ?_⟩
  · intro s hs
    rw [List.append_assoc, List.mem_append, List.mem_append, List.mem_singleton] at hs
    rcases hs with h1 | h1 | h1
    · rcases h.blocks s h1 with h2 | h2
      · left
        rw [List.take_succ_eq_append_getElem hi]
        exact List.mem_append_left _ h2
      · exact .inr h2
    · exact .inr (hnew s h1)
    · left
      rw [List.take_succ_eq_append_getElem hi, h1]
      exact List.mem_append_right _ (by simp)
  · rw [← h.fin, hf]
    simp [contents]
  · intro e
    have := hF e
    rw [this.2, List.append_nil, List.length_append, h.lenF this.1]; rfl
theorem PutSt.last (h : PutSt put H rs rs.length acc false) (r : RowRef) (hp : put [] = [r.2.2]) : contents (acc ++ [r]) = put (contents rs) := by
  have := h.fin
  simp [contents] at this ⊢
  rw [hp] at this
  exact this
theorem PutSt.done (h : PutSt put H rs rs.length acc true) : contents acc = put (contents rs) := by
  have := h.fin
  simpa [contents] using this
theorem PutSt.ne (h : PutSt put H rs i acc pl) (hnd : (rs.map (·.1)).Nodup) (hi : i < rs.length) (hH : rs[i].1 < H) : ∀ s ∈ acc, s.1 ≠ rs[i].1 := by
  intro s hs e
  rcases h.blocks s hs with h1 | h1
  · obtain ⟨t, ht, rfl⟩ := List.mem_iff_getElem.1 h1
    rw [List.length_take] at ht
    rw [List.getElem_take] at e
    have ht' : t < rs.length := by omega
    have h2 : (rs.map (·.1))[t]'(by simpa using ht') = (rs.map (·.1))[i]'(by simpa using hi) := by simpa using e
    have h3 := (List.getElem_inj hnd).1 h2
    omega
  · omega
end
end Go.Proofs.YtldcmhgpppeooaaGreatDoor
namespace Go.Proofs.YtldcmhgpppeooaaGreatDoor
set_option maxRecDepth 100000
open Go.RowKit

theorem CodeV.mono {w : World} {B B' : Nat} {a : Option Addr} {n : Nat} (h : CodeV w B a n) (hB : B ≤ B') : CodeV w B' a n := by
  rcases h with h | ⟨g, o, e, h1, h2, h3⟩
  · exact .inl h
  · exact .inr ⟨g, o, e, Nat.lt_of_lt_of_le h1 hB, h2, h3⟩
/-! ### bytes of a code; equal lists -/
theorem laws_big_any (a : Option Addr) (n c : Nat) (w : World) : Calls Tryz.prog 5 #[.slice a n c] w (Reads w (.bool (decide (1048576 < n)))) := by
  have e : decide ((1048576 : Int) < (n : Int)) = decide (1048576 < n) := by rw [decide_eq_decide]; omega
  go_enter Tryz.func5, Tryz.ntmps5
  go_wp2_with fail
  go_ret
  exact ⟨by first | rfl | exact ret_bool e, (by first | exact ⟨_, rfl⟩ | exact ⟨0, rfl⟩ | exact still2 _ _ _ | exact still3 _ _ _ _)⟩
theorem laws_at_any (a : Option Addr) (n c i B : Nat) (w : World) (hn : n ≤ 1048576) (hi : i ≤ 100) (hc : CodeV w B a n) :
    Calls Tryz.prog 73 #[.slice a n c, .int .i64 i] w fun e w' => ∃ x : Int, (0 ≤ x ∧ x < 256) ∧ e = .returned (.int .i64 x) ∧ ∃ q, w' = w.drewN q := by
  by_cases hlt : i < n
  · obtain ⟨g, o, rfl, hgB, hgs, hcell⟩ := hc.resolve_left (by omega)
    obtain ⟨y, hy, hyc⟩ := hcell i hlt
    have hltI : (i : Int) < (n : Int) := by omega
    clear hc hcell
    go_enter Tryz.func73, Tryz.ntmps73
    go_wp2_with fail
    go_ret
    exact ⟨y, hy, rfl, (by first | exact ⟨_, rfl⟩ | exact ⟨0, rfl⟩ | exact still2 _ _ _ | exact still3 _ _ _ _)⟩
  · have hltI : ¬ (i : Int) < (n : Int) := by omega
    have e1 : IntKind.i64.wrap ((i : Int) * 37) = (i : Int) * 37 := IntWalk.i64_in _ (by omega)
    have e2 : IntKind.i64.wrap ((n : Int) * 11) = (n : Int) * 11 := IntWalk.i64_in _ (by omega)
    have e3 : IntKind.i64.wrap ((i : Int) * 37 + (n : Int) * 11) = (i : Int) * 37 + (n : Int) * 11 := IntWalk.i64_in _ (by omega)
    clear hc
    go_enter Tryz.func73, Tryz.ntmps73
    go_wp2_with fail
    go_ret
    exact ⟨_, ⟨by omega, by omega⟩, rfl, (by first | exact ⟨_, rfl⟩ | exact ⟨0, rfl⟩ | exact still2 _ _ _ | exact still3 _ _ _ _)⟩
theorem laws_sameInts_same (g1 o1 n1 c1 g2 o2 n2 c2 : Nat) (xs : List Int) (w : World) (hn1 : xs.length = n1) (hn2 : xs.length = n2) (hx : xs.length ≤ 1048576) (h1 : Cells w g1 o1 xs) (h2 : Cells w g2 o2 xs) :
    Calls Tryz.prog 8 #[(Value.slice (some ⟨g1, o1, none⟩) n1 c1), (Value.slice (some ⟨g2, o2, none⟩) n2 c2)] w (Reads w (.bool true)) := by
  subst hn1; subst hn2
  go_enter Tryz.func8, Tryz.ntmps8
  go_wp2_with fail
  go_loopw [5] (fun i wr => ∃ k : Nat, k ≤ xs.length ∧ i = .int .i64 k ∧ ∃ q, wr = w.drewN q) (fun i _ => xs.length - (intOf i).toNat)
  case atStart => exact ⟨0, Nat.zero_le _, rfl, (by first | exact ⟨_, rfl⟩ | exact ⟨0, rfl⟩ | exact still2 _ _ _ | exact still3 _ _ _ _)⟩
  case round =>
    obtain ⟨k, hk, rfl, q, rfl⟩ := hrel
    by_cases hlt : k < xs.length
    · have q1 := h1 k hlt
      have q2 := h2 k hlt
      generalize xs.getD k 0 = z at *
      go_wp2_with fail
      go_quiet (fail)
      go_wp2_with fail
      go_roundw
      case rel => exact ⟨k + 1, by omega, by go_num, (by first | exact ⟨_, rfl⟩ | exact ⟨0, rfl⟩ | exact still2 _ _ _ | exact still3 _ _ _ _)⟩
      case measure => simp [intOf]; omega
    · obtain rfl : k = xs.length := by omega
      go_wp2_with fail
      go_ret
      exact ⟨rfl, (by first | exact ⟨_, rfl⟩ | exact ⟨0, rfl⟩ | exact still2 _ _ _ | exact still3 _ _ _ _)⟩
set_option maxHeartbeats 1000000 in
theorem laws_sameWords_same (g1 o1 n1 c1 g2 o2 n2 c2 : Nat) (rows : List (List Int)) (w : World) (hn1 : rows.length = n1) (hn2 : rows.length = n2) (hx : rows.length ≤ 1048576) (hrl : ∀ j, j < rows.length → (rows.getD j []).length ≤ 1048576) (h1 : Rows2 w g1 o1 rows) (h2 : Rows2 w g2 o2 rows) :
    Calls Tryz.prog 16 #[(Value.slice (some ⟨g1, o1, none⟩) n1 c1), (Value.slice (some ⟨g2, o2, none⟩) n2 c2)] w (Reads w (.bool true)) := by
  subst hn1; subst hn2
  go_enter Tryz.func16, Tryz.ntmps16
  go_wp2_with fail
  go_loopw [5] (fun i wr => ∃ k : Nat, k ≤ rows.length ∧ i = .int .i64 k ∧ ∃ q, wr = w.drewN q) (fun i _ => rows.length - (intOf i).toNat)
  case atStart => exact ⟨0, Nat.zero_le _, rfl, (by first | exact ⟨_, rfl⟩ | exact ⟨0, rfl⟩ | exact still2 _ _ _ | exact still3 _ _ _ _)⟩
  case round =>
    obtain ⟨k, hk, rfl, q, rfl⟩ := hrel
    by_cases hlt : k < rows.length
    · obtain ⟨ga, oa, ca, a1, a2, a3, a4⟩ := h1 k hlt
      obtain ⟨gb, ob, cb, b1, b2, b3, b4⟩ := h2 k hlt
      have hl := hrl k hlt
      have hcall := fun m => laws_sameInts_same ga oa (rows.getD k []).length ca gb ob (rows.getD k []).length cb (rows.getD k []) (w.drewN m) rfl rfl hl (show Cells (w.drewN m) ga oa _ from a4) (show Cells (w.drewN m) gb ob _ from b4)
      generalize rows.getD k [] = x at *
      obtain ⟨l, hle⟩ : ∃ l, x.length = l := ⟨_, rfl⟩
      rw [hle] at hcall a1 b1
      have Hcall := Lib.hid hcall
      clear hcall a4 b4 hle
      go_wp2_with fail
      go_quiet ((go_at_call 8; first | with_reducible exact Calls.quiet_of (Hcall.out _) | with_reducible exact Reads.quiet4 (Hcall.out _)))
      go_wp2_with fail
      go_roundw
      case rel => exact ⟨k + 1, by omega, by go_num, (by first | exact ⟨_, rfl⟩ | exact ⟨0, rfl⟩ | exact still2 _ _ _ | exact still3 _ _ _ _)⟩
      case measure => simp [intOf]; omega
    · obtain rfl : k = rows.length := by omega
      go_wp2_with fail
      go_ret
      exact ⟨rfl, (by first | exact ⟨_, rfl⟩ | exact ⟨0, rfl⟩ | exact still2 _ _ _ | exact still3 _ _ _ _)⟩
end Go.Proofs.YtldcmhgpppeooaaGreatDoor
namespace Go.Proofs.YtldcmhgpppeooaaGreatDoor
set_option maxRecDepth 100000
open Go.Joins Go.ChangeShapes Go.WideShapes Go.RowKit Go.Deep
section
variable {H : Type} {enc : TypeId × Value → H} {w : World} {base : Nat}
theorem argCode_open {fuel : Nat} {v : Value} {x : DataW H × List MemPlace} (h : DataW.trod enc Tryz.prog w base (fun _ => true) true fuel 22 [v] = some x) :
    ∃ a n c, v = .slice a n c ∧ CodeV w w.heap.size a n ∧ n ≤ maxLen := by
  rcases open_ints Tryz.underlying22 Tryz.underlying5 (by kernel_rfl) h with ⟨hcs, _⟩ | ⟨a, l, c, zs, hcs, _, hl, hm, hz, _, hcell, hwz⟩
  · simp at hcs
    exact ⟨none, 0, 0, hcs, .inl rfl, Nat.zero_le _⟩
  · simp at hcs
    have hz' : zs.length = c := by simpa using hz
    refine ⟨some a, l, c, hcs, ?_, by omega⟩
    by_cases h0 : l = 0
    · exact .inl h0
    obtain ⟨b, o, s⟩ := a
    have hc0 := hcell 0 (by omega)
    cases s with
    | some s => simp [World.cell?, Addr.add] at hc0; split at hc0 <;> simp_all
    | none =>
      refine .inr ⟨b, o, rfl, World.block_lt_of_cell? w _ hc0, World.block_lt_of_cell? w _ hc0, fun j hj => ?_⟩
      have hj' : j < zs.length := by omega
      have hcj := hcell j hj'
      rw [Addr.add_lit] at hcj
      have hwf := hwz (zs.getD j 0) (by simp [List.getD, hj'])
      refine ⟨zs.getD j 0, ?_, hcj⟩
      generalize zs.getD j 0 = z at *
      have h3 : 0 ≤ z ∧ z ≤ 255 := by simpa [Lit.wf, IntKind.min, IntKind.max, IntKind.signed, IntKind.bits] using hwf
      omega
variable {v : Value} {d : DataW H} {p : List MemPlace} {r : Reach} {b0 : Nat}
theorem argCode_at (hv : Value.okWide Tryz.prog w r b0 22 v) (h : DataW.Trod enc Tryz.prog w base (fun _ => true) true 22 v d p) :
    ∃ a n c, v = .slice a n c ∧ Hid (CodeV w w.heap.size a n) ∧ n ≤ maxLen := by
  obtain ⟨a, l, c, rfl⟩ := okWide_slice Tryz.underlying22 hv
  obtain ⟨fuel, hf⟩ := h
  exact argCode_open hf
end
end Go.Proofs.YtldcmhgpppeooaaGreatDoor
namespace Go.Proofs.YtldcmhgpppeooaaGreatDoor
set_option maxRecDepth 100000
open Go.Lib (join decDigits itoa)

theorem u8_int (x : Int) (h0 : 0 ≤ x) (h1 : x < 256) : ((UInt8.ofNat x.toNat).toNat : Int) = x := by
  rw [UInt8.toNat_ofNat']
  omega

/-! ### the reference's FormatInt: digits from the right -/
def digSt (N m : Nat) (out : List UInt8) : Prop := (m = 0 ∧ out = decDigits N) ∨ (0 < m ∧ decDigits N = decDigits m ++ out)
theorem decDigits_big {m : Nat} (h : 10 ≤ m) : decDigits m = decDigits (m / 10) ++ [UInt8.ofNat (48 + m % 10)] := by
  conv => lhs; rw [decDigits]
  rw [dif_neg (by omega)]
theorem digSt_start {N : Nat} (h : 0 < N) : digSt N N [] := .inr ⟨h, by simp⟩
theorem digSt_step {N m : Nat} {out : List UInt8} (h : digSt N m out) (hm : 0 < m) : digSt N (m / 10) (UInt8.ofNat (48 + m % 10) :: out) := by
  rcases h with ⟨h, -⟩ | ⟨-, h⟩
  · omega
  · by_cases h10 : m < 10
    · refine .inl ⟨by omega, ?_⟩
      rw [h, Lib.decDigits_one h10, Nat.mod_eq_of_lt h10]
      rfl
    · refine .inr ⟨by omega, ?_⟩
      rw [h, decDigits_big (by omega)]
      simp
theorem digSt_end {N : Nat} {out : List UInt8} (h : digSt N 0 out) : out = decDigits N := by
  rcases h with ⟨-, h⟩ | ⟨h, -⟩
  · exact h
  · omega
theorem digSt_len {N m : Nat} {out : List UInt8} (hN : N < 18446744073709551616) (h : digSt N m out) : out.length ≤ 20 := by
  have hl : (decDigits N).length ≤ 20 := by rw [Lib.decDigits_length]; exact Lib.nDigits_le20 N hN
  rcases h with ⟨-, h⟩ | ⟨-, h⟩
  · rw [h]; exact hl
  · rw [h, List.length_append] at hl; omega

/-! ### join, element by element -/
theorem join_snoc {xs : List (List UInt8)} (h : xs ≠ []) (y sep : List UInt8) : join (xs ++ [y]) sep = join xs sep ++ sep ++ y := by
  cases xs with
  | nil => exact absurd rfl h
  | cons x r =>
    rw [List.cons_append, Lib.join_cons, Lib.join_cons]
    simp [Lib.joinTail, List.append_assoc]
theorem join_len_le (xs : List (List UInt8)) (sep : List UInt8) : (join xs sep).length ≤ sep.length * xs.length + Lib.lens xs := by
  cases xs with
  | nil => simp [Lib.join_nil]
  | cons x r =>
    rw [Lib.join_length, List.length_cons, Nat.mul_succ]
    omega

/-! ### a weight, a list of roots, a matrix, a word -/
def itoas (v : List Int) : List (List UInt8) := v.map itoa
def weightL (v : List Int) : List UInt8 := join (itoas v) [44]
def I64s (v : List Int) : Prop := ∀ x ∈ v, (Lit.int .i64 x).wf = true
theorem wf_bounds {x : Int} (h : (Lit.int .i64 x).wf = true) : -9223372036854775808 ≤ x ∧ x ≤ 9223372036854775807 := by
  simp [Lit.wf, IntKind.min, IntKind.max, IntKind.signed, IntKind.bits] at h
  omega
theorem itoas_lens {v : List Int} (h : I64s v) : Lib.lens (itoas v) ≤ 21 * v.length := by
  induction v with
  | nil => simp [itoas, Lib.lens]
  | cons x v ih =>
    have h1 := wf_bounds (h x (by simp))
    have h2 := Lib.itoa_length_le x h1.1 h1.2
    have h3 := ih fun y hy => h y (by simp [hy])
    simp only [itoas, Lib.lens, List.map_cons, List.sum_cons, List.length_cons] at h3 ⊢
    omega
theorem weightL_len {v : List Int} (h : I64s v) : (weightL v).length ≤ 22 * v.length := by
  have h1 := join_len_le (itoas v) [44]
  have h2 := itoas_lens h
  have h3 : (itoas v).length = v.length := by simp [itoas]
  unfold weightL
  rw [h3] at h1
  simp only [List.length_cons, List.length_nil] at h1
  omega
theorem I64s.take {v : List Int} (h : I64s v) (k : Nat) : I64s (v.take k) := fun x hx => h x (List.mem_of_mem_take hx)
theorem I64s.at {v : List Int} (h : I64s v) {k : Nat} (hk : k < v.length) : (Lit.int .i64 (v.getD k 0)).wf = true := by
  apply h
  simp [List.getD, hk]
theorem itoas_take {v : List Int} {k : Nat} (hk : k < v.length) : itoas (v.take (k + 1)) = itoas (v.take k) ++ [itoa (v.getD k 0)] := by
  unfold itoas
  rw [List.take_succ_eq_append_getElem hk, List.map_append]
  congr 1
  simp [List.getD, hk]
theorem weightL_zero (v : List Int) : weightL (v.take 0) = [] := by simp [weightL, itoas, Lib.join_nil]
theorem weightL_first {v : List Int} (h : 0 < v.length) : weightL (v.take 1) = itoa (v.getD 0 0) := by
  unfold weightL
  rw [itoas_take h]
  simp [itoas, Lib.join_one]
theorem weightL_next {v : List Int} {k : Nat} (hk : k < v.length) (h0 : 0 < k) : weightL (v.take (k + 1)) = weightL (v.take k) ++ [44] ++ itoa (v.getD k 0) := by
  unfold weightL
  rw [itoas_take hk, join_snoc]
  intro h
  have h2 : (itoas (v.take k)).length = 0 := by rw [h]; rfl
  rw [itoas, List.length_map, List.length_take] at h2
  omega

/-- lists of lists, each written, with a sign between -/
def rowsL (sep : List UInt8) (l : List (List Int)) : List UInt8 := join (l.map weightL) sep
def cellsOf (l : List (List Int)) : Nat := (l.map List.length).sum
theorem cellsOf_take_succ {l : List (List Int)} {k : Nat} (hk : k < l.length) : cellsOf (l.take (k + 1)) = cellsOf (l.take k) + (l.getD k []).length := by
  unfold cellsOf
  rw [List.take_succ_eq_append_getElem hk, List.map_append, List.sum_append]
  simp [List.getD, hk]
theorem rowsL_len {l : List (List Int)} {sep : List UInt8} (h : ∀ r ∈ l, I64s r) : (rowsL sep l).length ≤ sep.length * l.length + 22 * cellsOf l := by
  have h1 := join_len_le (l.map weightL) sep
  rw [List.length_map] at h1
  have h2 : Lib.lens (l.map weightL) ≤ 22 * cellsOf l := by
    clear h1
    induction l with
    | nil => simp [Lib.lens, cellsOf]
    | cons r l ih =>
      have a := weightL_len (h r (by simp))
      have b := ih fun y hy => h y (by simp [hy])
      simp only [Lib.lens, cellsOf, List.map_cons, List.sum_cons] at b ⊢
      omega
  unfold rowsL
  omega
theorem rowsL_take {l : List (List Int)} {k : Nat} (hk : k < l.length) : (l.take (k + 1)).map weightL = (l.take k).map weightL ++ [weightL (l.getD k [])] := by
  rw [List.take_succ_eq_append_getElem hk, List.map_append]
  congr 1
  simp [List.getD, hk]
theorem rowsL_zero (sep : List UInt8) (l : List (List Int)) : rowsL sep (l.take 0) = [] := by simp [rowsL, Lib.join_nil]
theorem rowsL_first {sep : List UInt8} {l : List (List Int)} (h : 0 < l.length) : rowsL sep (l.take 1) = weightL (l.getD 0 []) := by
  unfold rowsL
  rw [rowsL_take h]
  simp [Lib.join_one]
theorem rowsL_next {sep : List UInt8} {l : List (List Int)} {k : Nat} (hk : k < l.length) (h0 : 0 < k) : rowsL sep (l.take (k + 1)) = rowsL sep (l.take k) ++ sep ++ weightL (l.getD k []) := by
  unfold rowsL
  rw [rowsL_take hk, join_snoc]
  intro h
  have h2 : ((l.take k).map weightL).length = 0 := by rw [h]; rfl
  rw [List.length_map, List.length_take] at h2
  omega
def rootsL (l : List (List Int)) : List UInt8 := if l.length = 0 then [110, 111, 110, 101] else rowsL [32] l
def cartanL (c : List (List Int)) : List UInt8 := if IsC c then rowsL [59] c else []

def InW (w : List Int) : Prop := ∀ i ∈ w, 0 ≤ i ∧ i < 4
instance (w : List Int) : Decidable (InW w) := by unfold InW; infer_instance
def digs (w : List Int) : List UInt8 := w.map fun i => UInt8.ofNat (49 + i.toNat)
def wordL (w : List Int) : List UInt8 := if w.length = 0 then [101] else if InW w then digs w else []
theorem digs_take {v : List Int} {k : Nat} (hk : k < v.length) : digs (v.take (k + 1)) = digs (v.take k) ++ [UInt8.ofNat (49 + (v.getD k 0).toNat)] := by
  unfold digs
  rw [List.take_succ_eq_append_getElem hk, List.map_append]
  congr 1
  simp [List.getD, hk]
theorem itoa_letter {i : Int} (h0 : 0 ≤ i) (h1 : i < 4) : itoa (i + 1) = [UInt8.ofNat (49 + i.toNat)] := by
  have : i = 0 ∨ i = 1 ∨ i = 2 ∨ i = 3 := by omega
  rcases this with rfl | rfl | rfl | rfl
  all_goals
    unfold itoa
    rw [if_neg (by omega), Lib.decDigits_one (by decide)]
    rfl
theorem inW_of_take {w : List Int} (h : ∀ j, j < w.length → 0 ≤ w.getD j 0 ∧ w.getD j 0 < 4) : InW w := by
  intro i hi
  obtain ⟨j, hj, rfl⟩ := List.mem_iff_getElem.1 hi
  have := h j hj
  simpa [List.getD, hj] using this
theorem not_inW {w : List Int} {j : Nat} (hj : j < w.length) (h : ¬ (0 ≤ w.getD j 0 ∧ w.getD j 0 < 4)) : ¬ InW w := by
  intro hw
  apply h
  apply hw
  simp [List.getD, hj]
end Go.Proofs.YtldcmhgpppeooaaGreatDoor
namespace Go.Proofs.YtldcmhgpppeooaaGreatDoor
set_option maxRecDepth 100000
open Go.RowKit
open Go.Lib (join decDigits itoa)
set_option maxRecDepth 100000

theorem convB1 (w : World) (a : Addr) (x : Int) (hc : w.cell? a = some (.int .u8 x)) :
    (convert 22 9 (.slice (some a) 1 1)).run Tryz.prog w = .ok (.string ⟨#[UInt8.ofNat x.toNat]⟩) w := by
  have h := run_convert_bytes_string (P := Tryz.prog) w 22 9 5 (some a) 1 1 Tryz.underlying22 Tryz.underlying5 Tryz.underlying9
  rw [h]
  have hl := run_loadCells_list (P := Tryz.prog) w a [.int .u8 x] (fun j v hj => by
    have hj0 : j = 0 := by have := (List.getElem?_eq_some_iff.1 hj).1; simp at this; exact this
    subst hj0
    simp at hj
    subst hj
    simpa [Addr.add] using hc)
  rw [run_bytesToString w a 1 1 [x] (by simpa using hl)]
  simp [ByteArray.push]

theorem addS (W : World) (x y z : List UInt8) (hz : x ++ y = z) (h : z.length ≤ 9223372036854775807) : (Op.stringOp .add ⟨x.toArray⟩ ⟨y.toArray⟩).run Tryz.prog W = .ok (.string ⟨z.toArray⟩) W := by
  subst hz
  rw [List.length_append] at h
  rw [run_string_add_sum W _ _ (by simp [ByteArray.size]; omega), ByteArray.mk_append_mk]

theorem rows_i64 {l : List (List Int)} (h : ∀ r ∈ l, I64s r) {k : Nat} (hk : k < l.length) : I64s (l.getD k []) := by
  apply h
  simp [List.getD, hk]
theorem cellsOf_take_le (l : List (List Int)) (k : Nat) : cellsOf (l.take k) ≤ cellsOf l := by
  unfold cellsOf
  have h : (l.map List.length).sum = ((l.take k).map List.length).sum + ((l.drop k).map List.length).sum := by
    rw [← List.sum_append, ← List.map_append, List.take_append_drop]
  omega
theorem rowsL_take_len {l : List (List Int)} {sep : List UInt8} (h : ∀ r ∈ l, I64s r) (hs : sep.length ≤ 1) (hl : l.length ≤ 1099511627776) (hcl : cellsOf l ≤ 1099511627776) (k : Nat) : (rowsL sep (l.take k)).length ≤ 9223372036854775807 := by
  have h1 := rowsL_len (l := l.take k) (sep := sep) (fun r hr => h r (List.mem_of_mem_take hr))
  have h2 := cellsOf_take_le l k
  have h3 : (l.take k).length ≤ l.length := by rw [List.length_take]; omega
  have h4 : sep.length * (l.take k).length ≤ 1 * (l.take k).length := Nat.mul_le_mul_right _ hs
  omega

theorem isC_row {c : List (List Int)} (h : IsC c) {i : Nat} (hi : i < c.length) : (c.getD i []).length = c.length := h.2.2.1 i hi
theorem isC_i64 {c : List (List Int)} (h : IsC c) : ∀ r ∈ c, I64s r := by
  intro r hr x hx
  obtain ⟨i, hi, rfl⟩ := List.mem_iff_getElem.1 hr
  obtain ⟨j, hj, rfl⟩ := List.mem_iff_getElem.1 hx
  have e1 : c.getD i [] = c[i] := by simp [List.getD, hi]
  have hj2 : j < c.length := by have := isC_row h hi; rw [e1] at this; omega
  have he := h.2.2.2 i hi j hj2
  have e2 : ent c i j = c[i][j] := by unfold ent; rw [e1]; simp [List.getD, hj]
  unfold EntOk at he
  rw [e2] at he
  simp [Lit.wf, IntKind.min, IntKind.max, IntKind.signed, IntKind.bits]
  split at he <;> omega
theorem cellsOf_le {l : List (List Int)} {m : Nat} (h : ∀ r ∈ l, r.length ≤ m) : cellsOf l ≤ m * l.length := by
  unfold cellsOf
  induction l with
  | nil => simp
  | cons r l ih =>
    have a := h r (by simp)
    have b := ih fun y hy => h y (by simp [hy])
    simp only [List.map_cons, List.sum_cons, List.length_cons]
    rw [Nat.mul_succ]
    omega
theorem isC_cells {c : List (List Int)} (h : IsC c) : cellsOf c ≤ 16 := by
  have h1 : ∀ r ∈ c, r.length ≤ 4 := by
    intro r hr
    obtain ⟨i, hi, rfl⟩ := List.mem_iff_getElem.1 hr
    have e1 : c.getD i [] = c[i] := by simp [List.getD, hi]
    have := isC_row h hi
    rw [e1] at this
    have := h.2.1
    omega
  have := cellsOf_le h1
  have := h.2.1
  omega
def preL (c : List (List Int)) (i : Nat) : List UInt8 := if 0 < i then rowsL [59] (c.take i) ++ [59] else []
theorem preL_row {c : List (List Int)} {i : Nat} (hi : i < c.length) : preL c i ++ weightL (c.getD i []) = rowsL [59] (c.take (i + 1)) := by
  unfold preL
  by_cases h : 0 < i
  · rw [if_pos h, rowsL_next hi h]
  · obtain rfl : i = 0 := by omega
    rw [if_neg (by omega), rowsL_first hi]
    rfl

theorem inRange_true {x : Int} (h : 0 ≤ x ∧ x < 4) : (decide (0 ≤ x) && decide (x ≤ 3)) = true := by simp; omega
theorem inRange_false {x : Int} (h : ¬ (0 ≤ x ∧ x < 4)) : (decide (0 ≤ x) && decide (x ≤ 3)) = false := by simp; omega
theorem wf_small {x : Int} (h : -1000 ≤ x ∧ x ≤ 1000) : (Lit.int .i64 x).wf = true := by
  simp [Lit.wf, IntKind.min, IntKind.max, IntKind.signed, IntKind.bits]; omega
end Go.Proofs.YtldcmhgpppeooaaGreatDoor
namespace Go.Proofs.YtldcmhgpppeooaaGreatDoor
set_option maxRecDepth 100000
open Go.RowKit

theorem infoStr : (Tryz.prog.info? 9).map (fun i => (i.zero, i.size, i.bytes)) = some (some (.string ⟨#[]⟩), 1, 16) := by kernel_rfl
def OwnStrs (w : World) (B g cap : Nat) (xs : List ByteArray) : Prop := OwnK w B 9 1 g cap xs.length (xs.map Value.string)
section
variable {w w' : World} {B g cap : Nat} {xs : List ByteArray}
theorem OwnStrs.empty (hB : B ≤ w.heap.size) : OwnStrs (w.alloc (.cells #[] 9)) B w.heap.size 0 [] := World.ownsRow_lit w #[] 0 hB (by decide) rfl
theorem OwnStrs.one (x : ByteArray) (hB : B ≤ w.heap.size) : OwnStrs (w.alloc (.cells #[.string x] 9)) B w.heap.size 1 [x] := World.ownsRow_lit w #[.string x] 1 hB (by decide) rfl
theorem OwnStrs.cell (h : OwnStrs w B g cap xs) : ∀ (j : Nat) x, xs[j]? = some x → w.cell? ⟨g, 0 + j, none⟩ = some (.string x) := by
  intro j x hx
  have hj : j < xs.length := (List.getElem?_eq_some_iff.1 hx).1
  rw [Nat.zero_add, OwnK.cell h j (by rw [List.length_map]; exact hj)]
  have : xs[j] = x := by rw [List.getElem?_eq_getElem hj] at hx; exact Option.some.inj hx
  simp [this]
theorem OwnStrs.capLe (h : OwnStrs w B g cap xs) : xs.length ≤ cap := by obtain ⟨cur, -, h2, -⟩ := OwnK.row h; exact h2
theorem wpList_append_str {ops : Array Oper} {rest : List Oper} {o : Oper} {a : Act} {Q : Exit → Act → World → Prop} (hgd : o.guard = none) (s x : Operand)
    (ho : o.op = .call { callee := .builtin .append, args := #[s, x], argTypes := #[69, 69] })
    (B g cap n H : Nat) (xs : List ByteArray) (z : ByteArray) (w W : World) (hn : xs.length = n) (hW : W = w.alloc (.cells #[.string z] 9)) (hH : w.heap.size = H) (hown : OwnStrs w B g cap xs)
    (hs : a.eval s = (Value.slice (some ⟨g, 0, none⟩) n cap)) (hx : a.eval x = (Value.slice (some ⟨H, 0, none⟩) 1 1)) (hlen : n + 1 ≤ 1048576)
    (h : ∀ g' cap' w', OwnStrs w' B g' cap' (xs ++ [z]) → w.grownBy w' (some g) → (g' = g ∨ w.heap.size < g') → wpList Tryz.prog ops Q rest (a.put o.dst (Value.slice (some ⟨g', 0, none⟩) (n + 1) cap')) w') :
    wpList Tryz.prog ops Q (o :: rest) a W := by
  subst hn; subst hW; subst hH
  have hnew := OwnStrs.one (w := w) (B := w.heap.size) z (Nat.le_refl _)
  refine wpList_append_K infoStr Tryz.underlying69 rfl (by decide) (by decide) hgd s x ho B g cap xs.length (xs.map Value.string) (OwnK.alloc hown _) w.heap.size 0 1 1 [.string z] rfl ?_ ?_ hs hx hlen ?_
  · intro j u hu
    have hj : j = 0 := by have := (List.getElem?_eq_some_iff.1 hu).1; simp at this; exact this
    subst hj
    have := hnew.cell 0 z rfl
    rw [this]
    simpa using hu
  · intro u hu
    simp at hu
    subst hu
    rfl
  · intro g' cap' w' h2 h3 h4
    refine h g' cap' w' ?_ ⟨h3.os, h3.tape, h3.output, Nat.le_trans (by simp) h3.size, fun k hk hne => (h3.block k (by simp; omega) hne).trans (Below.heap_alloc _ _ _ hk)⟩ (h4.imp id (by simp; omega))
    unfold OwnStrs
    rw [List.map_append, List.length_append]
    exact h2
end

end Go.Proofs.YtldcmhgpppeooaaGreatDoor
