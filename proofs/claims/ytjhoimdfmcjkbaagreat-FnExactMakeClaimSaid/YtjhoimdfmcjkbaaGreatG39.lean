/- The list of a search for a path of braid moves (impl.step): words of mine; append to it; how it tells the paths. Plain law: how words, weights, roots and matrices are written. -/
import Derived.Test.YtjhoimdfmcjkbaaGreatG05
import Derived.Test.YtjhoimdfmcjkbaaGreatG34
import Derived.Test.YtjhoimdfmcjkbaaGreatG19
import Derived.Test.YtjhoimdfmcjkbaaGreatG03
import Derived.Lib.Join
import Derived.Lib.ItoaLen
import Derived.Laws.Concat
namespace Go.Proofs.YtjhoimdfmcjkbaaGreat
set_option maxRecDepth 100000
open Go.RowKit

abbrev StRef := RowRef × Int × Int
def step3 (s : StRef) : List Value := [rowVal s.1, .int .i64 s.2.1, .int .i64 s.2.2]
def flatT (ss : List StRef) : List Value := ss.flatMap step3
def stD : StRef := ((0, 0, []), 0, 0)
theorem infoStep : (Tryz.prog.info? 48).map (fun i => (i.zero, i.size, i.bytes)) = some (some (.agg #[.slice none 0 0, .int .i64 0, .int .i64 0]), 3, 40) := by kernel_rfl
theorem flatT_length (ss : List StRef) : (flatT ss).length = ss.length * 3 := by
  induction ss with
  | nil => rfl
  | cons v vs ih => unfold flatT at *; simp only [List.flatMap_cons, List.length_append, ih, List.length_cons]; simp [step3]; omega
theorem flatT_append (a b : List StRef) : flatT (a ++ b) = flatT a ++ flatT b := by simp [flatT]
theorem flatT_at {ss : List StRef} {j : Nat} (hj : j < ss.length) : (flatT ss)[j * 3]? = some (rowVal (ss.getD j stD).1) ∧ (flatT ss)[j * 3 + 1]? = some (.int .i64 (ss.getD j stD).2.1) ∧ (flatT ss)[j * 3 + 2]? = some (.int .i64 (ss.getD j stD).2.2) := by
  induction ss generalizing j with
  | nil => simp at hj
  | cons v vs ih =>
    unfold flatT at *
    simp only [List.flatMap_cons]
    cases j with
    | zero => exact ⟨rfl, rfl, rfl⟩
    | succ j =>
      have := ih (j := j) (by simpa using hj)
      rw [List.getElem?_append_right (by simp [step3]; omega), List.getElem?_append_right (by simp [step3]; omega), List.getElem?_append_right (by simp [step3]; omega)]
      have e1 : (j + 1) * 3 - (step3 v).length = j * 3 := by simp [step3]; omega
      have e2 : (j + 1) * 3 + 1 - (step3 v).length = j * 3 + 1 := by simp [step3]; omega
      have e3 : (j + 1) * 3 + 2 - (step3 v).length = j * 3 + 2 := by simp [step3]; omega
      have e4 : (v :: vs).getD (j + 1) stD = vs.getD j stD := by simp [List.getD]
      rw [e1, e2, e3, e4]
      exact this
def OwnT (w : World) (B g cap : Nat) (ss : List StRef) : Prop := OwnK w B 48 3 g cap ss.length (flatT ss) ∧ ∀ s ∈ ss, Own w B s.1.1 s.1.2.1 s.1.2.2
section
variable {w w' : World} {B g cap : Nat} {ss : List StRef}
theorem OwnT.lt (h : OwnT w B g cap ss) : g < w.heap.size := OwnK.lt h.1
theorem OwnT.base (h : OwnT w B g cap ss) : B ≤ g := OwnK.base h.1
theorem OwnT.below (h : OwnT w B g cap ss) (hb : Below w.heap.size w w') : OwnT w' B g cap ss := ⟨OwnK.below h.1 hb h.lt, fun s hs => (h.2 s hs).below hb (h.2 s hs).lt⟩
theorem OwnT.still (h : OwnT w B g cap ss) (hs : ∃ n, w' = w.drewN n) : OwnT w' B g cap ss := by obtain ⟨n, rfl⟩ := hs; exact h
theorem OwnT.grown {k : Nat} (h : OwnT w B g cap ss) (hg : w.grownBy w' (some k)) (h1 : g ≠ k) (h2 : ∀ s ∈ ss, s.1.1 ≠ k) : OwnT w' B g cap ss :=
  ⟨OwnK.grown h.1 hg (fun e => h1 (Option.some.inj e)), fun s hs => (h.2 s hs).grown hg (fun e => h2 s hs (Option.some.inj e))⟩
theorem OwnT.row (h : OwnT w B g cap ss) : ∃ cur, w.heap[g]? = some (.cells cur 48 (0, 0)) := by obtain ⟨cur, h1, -⟩ := OwnK.row h.1; exact ⟨cur, h1⟩
theorem OwnT.ne (h : OwnT w B g cap ss) {B2 g2 c2 : Nat} {xs : List Int} (ho : Own w B2 g2 c2 xs) : g ≠ g2 := OwnK.neV h.1 ho.toV (by decide)
theorem OwnT.cell (h : OwnT w B g cap ss) {j : Nat} (hj : j < ss.length) : w.cell? ⟨g, j * 3, none⟩ = some (rowVal (ss.getD j stD).1) ∧ w.cell? ⟨g, j * 3 + 1, none⟩ = some (.int .i64 (ss.getD j stD).2.1) ∧ w.cell? ⟨g, j * 3 + 2, none⟩ = some (.int .i64 (ss.getD j stD).2.2) := by
  have hl1 : j * 3 < (flatT ss).length := by rw [flatT_length]; omega
  have hl2 : j * 3 + 1 < (flatT ss).length := by rw [flatT_length]; omega
  have hl3 : j * 3 + 2 < (flatT ss).length := by rw [flatT_length]; omega
  obtain ⟨h1, h2, h3⟩ := flatT_at hj
  rw [OwnK.cell h.1 _ hl1, OwnK.cell h.1 _ hl2, OwnK.cell h.1 _ hl3, ← h1, ← h2, ← h3, List.getElem?_eq_getElem hl1, List.getElem?_eq_getElem hl2, List.getElem?_eq_getElem hl3]
  exact ⟨rfl, rfl, rfl⟩
theorem OwnT.mem {j : Nat} (hj : j < ss.length) : ss.getD j stD ∈ ss := by simp [List.getD, hj]
theorem OwnT.one (s : StRef) (hB : B ≤ w.heap.size) (hs : Own w B s.1.1 s.1.2.1 s.1.2.2) : OwnT (w.alloc (.cells #[rowVal s.1, .int .i64 s.2.1, .int .i64 s.2.2] 48)) B w.heap.size 1 [s] :=
  ⟨World.ownsRow_lit w #[rowVal s.1, .int .i64 s.2.1, .int .i64 s.2.2] 1 hB (by decide) rfl, fun t ht => by rw [List.mem_singleton] at ht; subst ht; exact hs.alloc _⟩
theorem wpList_append_step {ops : Array Oper} {rest : List Oper} {o : Oper} {a : Act} {Q : Exit → Act → World → Prop} (hgd : o.guard = none) (s x : Operand)
    (ho : o.op = .call { callee := .builtin .append, args := #[s, x], argTypes := #[49, 49] })
    (B g cap n H gy ly cy : Nat) (ss : List StRef) (y : List Int) (fr pl : Int) (w W : World) (hn : ss.length = n) (hly : y.length = ly) (hW : W = w.alloc (.cells #[(Value.slice (some ⟨gy, 0, none⟩) ly cy), .int .i64 fr, .int .i64 pl] 48)) (hH : w.heap.size = H) (hown : OwnT w B g cap ss) (hy : Own w B gy cy y)
    (hs : a.eval s = (Value.slice (some ⟨g, 0, none⟩) n cap)) (hx : a.eval x = (Value.slice (some ⟨H, 0, none⟩) 1 1)) (hlen : n + 1 ≤ 1048576)
    (h : ∀ g' cap' w', OwnT w' B g' cap' (ss ++ [((gy, cy, y), fr, pl)]) → w.grownBy w' (some g) → (g' = g ∨ w.heap.size < g') → wpList Tryz.prog ops Q rest (a.put o.dst (Value.slice (some ⟨g', 0, none⟩) (n + 1) cap')) w') :
    wpList Tryz.prog ops Q (o :: rest) a W := by
  subst hn; subst hW; subst hH; subst hly
  have hnew := OwnT.one (w := w) (B := B) ((gy, cy, y), fr, pl) (by have := hown.base; have := hown.lt; omega) hy
  refine wpList_append_K infoStep Tryz.underlying49 rfl (by decide) (by decide) hgd s x ho B g cap ss.length (flatT ss) (OwnK.alloc hown.1 _) w.heap.size 0 1 1 (step3 ((gy, cy, y), fr, pl)) rfl ?_ ?_ hs hx hlen ?_
  · intro j u hu
    have hj : j < 3 := by have := (List.getElem?_eq_some_iff.1 hu).1; simpa [step3] using this
    obtain ⟨h1, h2, h3⟩ := hnew.cell (j := 0) (by simp)
    rw [Nat.zero_mul] at h1 h2 h3
    have : j = 0 ∨ j = 1 ∨ j = 2 := by omega
    rcases this with rfl | rfl | rfl
    · rw [Nat.zero_add]; exact h1.trans hu
    · exact h2.trans hu
    · exact h3.trans hu
  · intro u hu
    simp [step3] at hu
    rcases hu with rfl | rfl | rfl <;> rfl
  · intro g' cap' w' h2 h3 h4
    have hg : w.grownBy w' (some g) := ⟨h3.os, h3.tape, h3.output, Nat.le_trans (by simp) h3.size, fun k hk hne => (h3.block k (by simp; omega) hne).trans (Below.heap_alloc _ _ _ hk)⟩
    refine h g' cap' w' ⟨?_, fun t ht => ?_⟩ hg (h4.imp id (by simp; omega))
    · rw [flatT_append, List.length_append]
      have e : flatT [((gy, cy, y), fr, pl)] = step3 ((gy, cy, y), fr, pl) := by simp [flatT]
      rw [e]
      exact h2
    · rcases List.mem_append.1 ht with q | q
      · exact (hown.2 t q).grown hg (fun e => hown.ne (hown.2 t q) (Option.some.inj e).symm)
      · rw [List.mem_singleton] at q
        subst q
        exact hy.grown hg (fun e => hown.ne hy (Option.some.inj e).symm)
end

/-- the list of the search and the words and paths that it tells -/
structure StRel (ss : List StRef) (Q : List BNode) : Prop where
  len : ss.length = Q.length
  word : ∀ j, j < Q.length → (ss.getD j stD).1.2.2 = (Q.getD j ([], [])).1
  chain : ∀ j, j < Q.length → ((ss.getD j stD).2.1 < 0 ∧ (Q.getD j ([], [])).2 = []) ∨ (∃ i : Nat, (ss.getD j stD).2.1 = (i : Int) ∧ i < j ∧ (Q.getD j ([], [])).2 = (Q.getD i ([], [])).2 ++ [(ss.getD j stD).2.2])
theorem StRel.start (r : RowRef) : StRel [(r, -1, 0)] [(r.2.2, [])] :=
  ⟨rfl, fun j hj => by have : j = 0 := by simp at hj; exact hj
                       subst this; rfl, fun j hj => by have : j = 0 := by simp at hj; exact hj
                                                       subst this; exact .inl ⟨by show (-1 : Int) < 0; omega, rfl⟩⟩
theorem StRel.push {ss : List StRef} {Q : List BNode} (h : StRel ss Q) {k : Nat} (hk : k < Q.length) {r : RowRef} {x : Int} {u p : List Int} (hN : Q.getD k ([], []) = (u, p)) : StRel (ss ++ [(r, (k : Int), x)]) (Q ++ [(r.2.2, p ++ [x])]) := by
  have e : ∀ j, j < Q.length → (ss ++ [(r, (k : Int), x)]).getD j stD = ss.getD j stD ∧ (Q ++ [(r.2.2, p ++ [x])]).getD j ([], []) = Q.getD j ([], []) := fun j hj => by
    constructor
    · simp [List.getD, List.getElem?_append_left (show j < ss.length by rw [h.len]; exact hj)]
    · simp [List.getD, List.getElem?_append_left hj]
  have e2 : (ss ++ [(r, (k : Int), x)]).getD Q.length stD = (r, (k : Int), x) ∧ (Q ++ [(r.2.2, p ++ [x])]).getD Q.length ([], []) = (r.2.2, p ++ [x]) := by
    constructor
    · rw [← h.len]; simp [List.getD]
    · simp [List.getD]
  refine ⟨by simp [h.len], fun j hj => ?_, fun j hj => ?_⟩
  · by_cases hq : j < Q.length
    · rw [(e j hq).1, (e j hq).2]; exact h.word j hq
    · obtain rfl : j = Q.length := by simp at hj; omega
      rw [e2.1, e2.2]
  · by_cases hq : j < Q.length
    · rw [(e j hq).1, (e j hq).2]
      rcases h.chain j hq with g | ⟨i, g1, g2, g3⟩
      · exact .inl g
      · exact .inr ⟨i, g1, g2, by rw [(e i (by omega)).2]; exact g3⟩
    · obtain rfl : j = Q.length := by simp at hj; omega
      rw [e2.1, e2.2]
      exact .inr ⟨k, rfl, hk, by rw [(e k hk).2, hN]⟩
end Go.Proofs.YtjhoimdfmcjkbaaGreat
namespace Go.Proofs.YtjhoimdfmcjkbaaGreat
set_option maxRecDepth 100000
open Go.Lib (join decDigits itoa)

theorem u8_int (x : Int) (h0 : 0 ≤ x) (h1 : x < 256) : ((UInt8.ofNat x.toNat).toNat : Int) = x := by
  rw [UInt8.toNat_ofNat']
  omega

/-! ### the reference's FormatInt: digits from the right -/
def digSt (N m : Nat) (out : List UInt8) : Prop := (m = 0 ∧ out = decDigits N) ∨ (0 < m ∧ decDigits N = decDigits m ++ out)
theorem decDigits_big {m : Nat} (h : 10 ≤ m) : decDigits m = decDigits (m / 10) ++ [UInt8.ofNat (48 + m % 10)] := by
  conv => lhs; rw [decDigits]
  rw [dif_neg (by omega)]
theorem digSt_start {N : Nat} (h : 0 < N) : digSt N N [] := .inr ⟨h, by simp⟩
theorem digSt_step {N m : Nat} {out : List UInt8} (h : digSt N m out) (hm : 0 < m) : digSt N (m / 10) (UInt8.ofNat (48 + m % 10) :: out) := by
  rcases h with ⟨h, -⟩ | ⟨-, h⟩
  · omega
  · by_cases h10 : m < 10
    · refine .inl ⟨by omega, ?_⟩
      rw [h, Lib.decDigits_one h10, Nat.mod_eq_of_lt h10]
      rfl
    · refine .inr ⟨by omega, ?_⟩
      rw [h, decDigits_big (by omega)]
      simp
theorem digSt_end {N : Nat} {out : List UInt8} (h : digSt N 0 out) : out = decDigits N := by
  rcases h with ⟨-, h⟩ | ⟨h, -⟩
  · exact h
  · omega
theorem digSt_len {N m : Nat} {out : List UInt8} (hN : N < 18446744073709551616) (h : digSt N m out) : out.length ≤ 20 := by
  have hl : (decDigits N).length ≤ 20 := by rw [Lib.decDigits_length]; exact Lib.nDigits_le20 N hN
  rcases h with ⟨-, h⟩ | ⟨-, h⟩
  · rw [h]; exact hl
  · rw [h, List.length_append] at hl; omega

/-! ### join, element by element -/
theorem join_snoc {xs : List (List UInt8)} (h : xs ≠ []) (y sep : List UInt8) : join (xs ++ [y]) sep = join xs sep ++ sep ++ y := by
  cases xs with
  | nil => exact absurd rfl h
  | cons x r =>
    rw [List.cons_append, Lib.join_cons, Lib.join_cons]
    simp [Lib.joinTail, List.append_assoc]
theorem join_len_le (xs : List (List UInt8)) (sep : List UInt8) : (join xs sep).length ≤ sep.length * xs.length + Lib.lens xs := by
  cases xs with
  | nil => simp [Lib.join_nil]
  | cons x r =>
    rw [Lib.join_length, List.length_cons, Nat.mul_succ]
    omega

/-! ### a weight, a list of roots, a matrix, a word -/
def itoas (v : List Int) : List (List UInt8) := v.map itoa
def weightL (v : List Int) : List UInt8 := join (itoas v) [44]
def I64s (v : List Int) : Prop := ∀ x ∈ v, (Lit.int .i64 x).wf = true
theorem wf_bounds {x : Int} (h : (Lit.int .i64 x).wf = true) : -9223372036854775808 ≤ x ∧ x ≤ 9223372036854775807 := by
  simp [Lit.wf, IntKind.min, IntKind.max, IntKind.signed, IntKind.bits] at h
  omega
theorem itoas_lens {v : List Int} (h : I64s v) : Lib.lens (itoas v) ≤ 21 * v.length := by
  induction v with
  | nil => simp [itoas, Lib.lens]
  | cons x v ih =>
    have h1 := wf_bounds (h x (by simp))
    have h2 := Lib.itoa_length_le x h1.1 h1.2
    have h3 := ih fun y hy => h y (by simp [hy])
    simp only [itoas, Lib.lens, List.map_cons, List.sum_cons, List.length_cons] at h3 ⊢
    omega
theorem weightL_len {v : List Int} (h : I64s v) : (weightL v).length ≤ 22 * v.length := by
  have h1 := join_len_le (itoas v) [44]
  have h2 := itoas_lens h
  have h3 : (itoas v).length = v.length := by simp [itoas]
  unfold weightL
  rw [h3] at h1
  simp only [List.length_cons, List.length_nil] at h1
  omega
theorem I64s.take {v : List Int} (h : I64s v) (k : Nat) : I64s (v.take k) := fun x hx => h x (List.mem_of_mem_take hx)
theorem I64s.at {v : List Int} (h : I64s v) {k : Nat} (hk : k < v.length) : (Lit.int .i64 (v.getD k 0)).wf = true := by
  apply h
  simp [List.getD, hk]
theorem itoas_take {v : List Int} {k : Nat} (hk : k < v.length) : itoas (v.take (k + 1)) = itoas (v.take k) ++ [itoa (v.getD k 0)] := by
  unfold itoas
  rw [List.take_succ_eq_append_getElem hk, List.map_append]
  congr 1
  simp [List.getD, hk]
theorem weightL_zero (v : List Int) : weightL (v.take 0) = [] := by simp [weightL, itoas, Lib.join_nil]
theorem weightL_first {v : List Int} (h : 0 < v.length) : weightL (v.take 1) = itoa (v.getD 0 0) := by
  unfold weightL
  rw [itoas_take h]
  simp [itoas, Lib.join_one]
theorem weightL_next {v : List Int} {k : Nat} (hk : k < v.length) (h0 : 0 < k) : weightL (v.take (k + 1)) = weightL (v.take k) ++ [44] ++ itoa (v.getD k 0) := by
  unfold weightL
  rw [itoas_take hk, join_snoc]
  intro h
  have h2 : (itoas (v.take k)).length = 0 := by rw [h]; rfl
  rw [itoas, List.length_map, List.length_take] at h2
  omega

/-- lists of lists, each written, with a sign between -/
def rowsL (sep : List UInt8) (l : List (List Int)) : List UInt8 := join (l.map weightL) sep
def cellsOf (l : List (List Int)) : Nat := (l.map List.length).sum
theorem cellsOf_take_succ {l : List (List Int)} {k : Nat} (hk : k < l.length) : cellsOf (l.take (k + 1)) = cellsOf (l.take k) + (l.getD k []).length := by
  unfold cellsOf
  rw [List.take_succ_eq_append_getElem hk, List.map_append, List.sum_append]
  simp [List.getD, hk]
theorem rowsL_len {l : List (List Int)} {sep : List UInt8} (h : ∀ r ∈ l, I64s r) : (rowsL sep l).length ≤ sep.length * l.length + 22 * cellsOf l := by
  have h1 := join_len_le (l.map weightL) sep
  rw [List.length_map] at h1
  have h2 : Lib.lens (l.map weightL) ≤ 22 * cellsOf l := by
    clear h1
    induction l with
    | nil => simp [Lib.lens, cellsOf]
    | cons r l ih =>
      have a := weightL_len (h r (by simp))
      have b := ih fun y hy => h y (by simp [hy])
      simp only [Lib.lens, cellsOf, List.map_cons, List.sum_cons] at b ⊢
      omega
  unfold rowsL
  omega
theorem rowsL_take {l : List (List Int)} {k : Nat} (hk : k < l.length) : (l.take (k + 1)).map weightL = (l.take k).map weightL ++ [weightL (l.getD k [])] := by
  rw [List.take_succ_eq_append_getElem hk, List.map_append]
  congr 1
  simp [List.getD, hk]
theorem rowsL_zero (sep : List UInt8) (l : List (List Int)) : rowsL sep (l.take 0) = [] := by simp [rowsL, Lib.join_nil]
theorem rowsL_first {sep : List UInt8} {l : List (List Int)} (h : 0 < l.length) : rowsL sep (l.take 1) = weightL (l.getD 0 []) := by
  unfold rowsL
  rw [rowsL_take h]
  simp [Lib.join_one]
theorem rowsL_next {sep : List UInt8} {l : List (List Int)} {k : Nat} (hk : k < l.length) (h0 : 0 < k) : rowsL sep (l.take (k + 1)) = rowsL sep (l.take k) ++ sep ++ weightL (l.getD k []) := by
  unfold rowsL
  rw [rowsL_take hk, join_snoc]
  intro h
  have h2 : ((l.take k).map weightL).length = 0 := by rw [h]; rfl
  rw [List.length_map, List.length_take] at h2
  omega
def rootsL (l : List (List Int)) : List UInt8 := if l.length = 0 then [110, 111, 110, 101] else rowsL [32] l
def cartanL (c : List (List Int)) : List UInt8 := if IsC c then rowsL [59] c else []

def InW (w : List Int) : Prop := ∀ i ∈ w, 0 ≤ i ∧ i < 4
instance (w : List Int) : Decidable (InW w) := by unfold InW; infer_instance
def digs (w : List Int) : List UInt8 := w.map fun i => UInt8.ofNat (49 + i.toNat)
def wordL (w : List Int) : List UInt8 := if w.length = 0 then [101] else if InW w then digs w else []
theorem digs_take {v : List Int} {k : Nat} (hk : k < v.length) : digs (v.take (k + 1)) = digs (v.take k) ++ [UInt8.ofNat (49 + (v.getD k 0).toNat)] := by
  unfold digs
  rw [List.take_succ_eq_append_getElem hk, List.map_append]
  congr 1
  simp [List.getD, hk]
theorem itoa_letter {i : Int} (h0 : 0 ≤ i) (h1 : i < 4) : itoa (i + 1) = [UInt8.ofNat (49 + i.toNat)] := by
  have : i = 0 ∨ i = 1 ∨ i = 2 ∨ i = 3 := by omega
  rcases this with rfl | rfl | rfl | rfl
  all_goals
    unfold itoa
    rw [if_neg (by omega), Lib.decDigits_one (by decide)]
    rfl
theorem inW_of_take {w : List Int} (h : ∀ j, j < w.length → 0 ≤ w.getD j 0 ∧ w.getD j 0 < 4) : InW w := by
  intro i hi
  obtain ⟨j, hj, rfl⟩ := List.mem_iff_getElem.1 hi
  have := h j hj
  simpa [List.getD, hj] using this
theorem not_inW {w : List Int} {j : Nat} (hj : j < w.length) (h : ¬ (0 ≤ w.getD j 0 ∧ w.getD j 0 < 4)) : ¬ InW w := by
  intro hw
  apply h
  apply hw
  simp [List.getD, hj]
end Go.Proofs.YtjhoimdfmcjkbaaGreat
