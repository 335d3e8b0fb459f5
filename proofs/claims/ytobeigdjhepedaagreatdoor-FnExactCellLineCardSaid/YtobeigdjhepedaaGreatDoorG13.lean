/- Plain law: how words, weights, roots and matrices are written. The reference's FormatInt, FormatWeight, FormatRoots, FormatCartan, FormatWord: contracts. Slices of strings of the call's own. -/
import Derived.Test.YtobeigdjhepedaaGreatDoorG02
import Derived.Lib.Join
import Derived.Lib.ItoaLen
import Derived.Laws.Concat
import Derived.Laws.BytesString
namespace Go.Proofs.YtobeigdjhepedaaGreatDoor
set_option maxRecDepth 100000
open Go.Lib (join decDigits itoa)

theorem u8_int (x : Int) (h0 : 0 ≤ x) (h1 : x < 256) : ((UInt8.ofNat x.toNat).toNat : Int) = x := by
  rw [UInt8.toNat_ofNat']
  omega

/-! ### the reference's FormatInt: digits from the right -/
def digSt (N m : Nat) (out : List UInt8) : Prop := (m = 0 ∧ out = decDigits N) ∨ (0 < m ∧ decDigits N = decDigits m ++ out)
theorem decDigits_big {m : Nat} (h : 10 ≤ m) : decDigits m = decDigits (m / 10) ++ [UInt8.ofNat (48 + m % 10)] := by
  conv => lhs; rw [decDigits]
  rw [dif_neg (by omega)]
theorem digSt_start {N : Nat} (h : 0 < N) : digSt N N [] := .inr ⟨h, by simp⟩
theorem digSt_step {N m : Nat} {out : List UInt8} (h : digSt N m out) (hm : 0 < m) : digSt N (m / 10) (UInt8.ofNat (48 + m % 10) :: out) := by
  rcases h with ⟨h, -⟩ | ⟨-, h⟩
  · omega
  · by_cases h10 : m < 10
    · refine .inl ⟨by omega, ?_⟩
      rw [h, Lib.decDigits_one h10, Nat.mod_eq_of_lt h10]
      rfl
    · refine .inr ⟨by omega, ?_⟩
      rw [h, decDigits_big (by omega)]
      simp
theorem digSt_end {N : Nat} {out : List UInt8} (h : digSt N 0 out) : out = decDigits N := by
  rcases h with ⟨-, h⟩ | ⟨h, -⟩
  · exact h
  · omega
theorem digSt_len {N m : Nat} {out : List UInt8} (hN : N < 18446744073709551616) (h : digSt N m out) : out.length ≤ 20 := by
  have hl : (decDigits N).length ≤ 20 := by rw [Lib.decDigits_length]; exact Lib.nDigits_le20 N hN
  rcases h with ⟨-, h⟩ | ⟨-, h⟩
  · rw [h]; exact hl
  · rw [h, List.length_append] at hl; omega

/-! ### join, element by element -/
theorem join_snoc {xs : List (List UInt8)} (h : xs ≠ []) (y sep : List UInt8) : join (xs ++ [y]) sep = join xs sep ++ sep ++ y := by
  cases xs with
  | nil => exact absurd rfl h
  | cons x r =>
    rw [List.cons_append, Lib.join_cons, Lib.join_cons]
    simp [Lib.joinTail, List.append_assoc]
theorem join_len_le (xs : List (List UInt8)) (sep : List UInt8) : (join xs sep).length ≤ sep.length * xs.length + Lib.lens xs := by
  cases xs with
  | nil => simp [Lib.join_nil]
  | cons x r =>
    rw [Lib.join_length, List.length_cons, Nat.mul_succ]
    omega

/-! ### a weight, a list of roots, a matrix, a word -/
def itoas (v : List Int) : List (List UInt8) := v.map itoa
def weightL (v : List Int) : List UInt8 := join (itoas v) [44]
def I64s (v : List Int) : Prop := ∀ x ∈ v, (Lit.int .i64 x).wf = true
theorem wf_bounds {x : Int} (h : (Lit.int .i64 x).wf = true) : -9223372036854775808 ≤ x ∧ x ≤ 9223372036854775807 := by
  simp [Lit.wf, IntKind.min, IntKind.max, IntKind.signed, IntKind.bits] at h
  omega
theorem itoas_lens {v : List Int} (h : I64s v) : Lib.lens (itoas v) ≤ 21 * v.length := by
  induction v with
  | nil => simp [itoas, Lib.lens]
  | cons x v ih =>
    have h1 := wf_bounds (h x (by simp))
    have h2 := Lib.itoa_length_le x h1.1 h1.2
    have h3 := ih fun y hy => h y (by simp [hy])
    simp only [itoas, Lib.lens, List.map_cons, List.sum_cons, List.length_cons] at h3 ⊢
    omega
theorem weightL_len {v : List Int} (h : I64s v) : (weightL v).length ≤ 22 * v.length := by
  have h1 := join_len_le (itoas v) [44]
  have h2 := itoas_lens h
  have h3 : (itoas v).length = v.length := by simp [itoas]
  unfold weightL
  rw [h3] at h1
  simp only [List.length_cons, List.length_nil] at h1
  omega
theorem I64s.take {v : List Int} (h : I64s v) (k : Nat) : I64s (v.take k) := fun x hx => h x (List.mem_of_mem_take hx)
theorem I64s.at {v : List Int} (h : I64s v) {k : Nat} (hk : k < v.length) : (Lit.int .i64 (v.getD k 0)).wf = true := by
  apply h
  simp [List.getD, hk]
theorem itoas_take {v : List Int} {k : Nat} (hk : k < v.length) : itoas (v.take (k + 1)) = itoas (v.take k) ++ [itoa (v.getD k 0)] := by
  unfold itoas
  rw [List.take_succ_eq_append_getElem hk, List.map_append]
  congr 1
  simp [List.getD, hk]
theorem weightL_zero (v : List Int) : weightL (v.take 0) = [] := by simp [weightL, itoas, Lib.join_nil]
theorem weightL_first {v : List Int} (h : 0 < v.length) : weightL (v.take 1) = itoa (v.getD 0 0) := by
  unfold weightL
  rw [itoas_take h]
  simp [itoas, Lib.join_one]
theorem weightL_next {v : List Int} {k : Nat} (hk : k < v.length) (h0 : 0 < k) : weightL (v.take (k + 1)) = weightL (v.take k) ++ [44] ++ itoa (v.getD k 0) := by
  unfold weightL
  rw [itoas_take hk, join_snoc]
  intro h
  have h2 : (itoas (v.take k)).length = 0 := by rw [h]; rfl
  rw [itoas, List.length_map, List.length_take] at h2
  omega

/-- lists of lists, each written, with a sign between -/
def rowsL (sep : List UInt8) (l : List (List Int)) : List UInt8 := join (l.map weightL) sep
def cellsOf (l : List (List Int)) : Nat := (l.map List.length).sum
theorem cellsOf_take_succ {l : List (List Int)} {k : Nat} (hk : k < l.length) : cellsOf (l.take (k + 1)) = cellsOf (l.take k) + (l.getD k []).length := by
  unfold cellsOf
  rw [List.take_succ_eq_append_getElem hk, List.map_append, List.sum_append]
  simp [List.getD, hk]
theorem rowsL_len {l : List (List Int)} {sep : List UInt8} (h : ∀ r ∈ l, I64s r) : (rowsL sep l).length ≤ sep.length * l.length + 22 * cellsOf l := by
  have h1 := join_len_le (l.map weightL) sep
  rw [List.length_map] at h1
  have h2 : Lib.lens (l.map weightL) ≤ 22 * cellsOf l := by
    clear h1
    induction l with
    | nil => simp [Lib.lens, cellsOf]
    | cons r l ih =>
      have a := weightL_len (h r (by simp))
      have b := ih fun y hy => h y (by simp [hy])
      simp only [Lib.lens, cellsOf, List.map_cons, List.sum_cons] at b ⊢
      omega
  unfold rowsL
  omega
theorem rowsL_take {l : List (List Int)} {k : Nat} (hk : k < l.length) : (l.take (k + 1)).map weightL = (l.take k).map weightL ++ [weightL (l.getD k [])] := by
  rw [List.take_succ_eq_append_getElem hk, List.map_append]
  congr 1
  simp [List.getD, hk]
theorem rowsL_zero (sep : List UInt8) (l : List (List Int)) : rowsL sep (l.take 0) = [] := by simp [rowsL, Lib.join_nil]
theorem rowsL_first {sep : List UInt8} {l : List (List Int)} (h : 0 < l.length) : rowsL sep (l.take 1) = weightL (l.getD 0 []) := by
  unfold rowsL
  rw [rowsL_take h]
  simp [Lib.join_one]
theorem rowsL_next {sep : List UInt8} {l : List (List Int)} {k : Nat} (hk : k < l.length) (h0 : 0 < k) : rowsL sep (l.take (k + 1)) = rowsL sep (l.take k) ++ sep ++ weightL (l.getD k []) := by
  unfold rowsL
  rw [rowsL_take hk, join_snoc]
  intro h
  have h2 : ((l.take k).map weightL).length = 0 := by rw [h]; rfl
  rw [List.length_map, List.length_take] at h2
  omega
def rootsL (l : List (List Int)) : List UInt8 := if l.length = 0 then [110, 111, 110, 101] else rowsL [32] l
def cartanL (c : List (List Int)) : List UInt8 := if IsC c then rowsL [59] c else []

def InW (w : List Int) : Prop := ∀ i ∈ w, 0 ≤ i ∧ i < 4
instance (w : List Int) : Decidable (InW w) := by unfold InW; infer_instance
def digs (w : List Int) : List UInt8 := w.map fun i => UInt8.ofNat (49 + i.toNat)
def wordL (w : List Int) : List UInt8 := if w.length = 0 then [101] else if InW w then digs w else []
theorem digs_take {v : List Int} {k : Nat} (hk : k < v.length) : digs (v.take (k + 1)) = digs (v.take k) ++ [UInt8.ofNat (49 + (v.getD k 0).toNat)] := by
  unfold digs
  rw [List.take_succ_eq_append_getElem hk, List.map_append]
  congr 1
  simp [List.getD, hk]
theorem itoa_letter {i : Int} (h0 : 0 ≤ i) (h1 : i < 4) : itoa (i + 1) = [UInt8.ofNat (49 + i.toNat)] := by
  have : i = 0 ∨ i = 1 ∨ i = 2 ∨ i = 3 := by omega
  rcases this with rfl | rfl | rfl | rfl
  all_goals
    unfold itoa
    rw [if_neg (by omega), Lib.decDigits_one (by decide)]
    rfl
theorem inW_of_take {w : List Int} (h : ∀ j, j < w.length → 0 ≤ w.getD j 0 ∧ w.getD j 0 < 4) : InW w := by
  intro i hi
  obtain ⟨j, hj, rfl⟩ := List.mem_iff_getElem.1 hi
  have := h j hj
  simpa [List.getD, hj] using this
theorem not_inW {w : List Int} {j : Nat} (hj : j < w.length) (h : ¬ (0 ≤ w.getD j 0 ∧ w.getD j 0 < 4)) : ¬ InW w := by
  intro hw
  apply h
  apply hw
  simp [List.getD, hj]
end Go.Proofs.YtobeigdjhepedaaGreatDoor
namespace Go.Proofs.YtobeigdjhepedaaGreatDoor
set_option maxRecDepth 100000
open Go.RowKit
open Go.Lib (join decDigits itoa)
set_option maxRecDepth 100000

theorem convB1 (w : World) (a : Addr) (x : Int) (hc : w.cell? a = some (.int .u8 x)) :
    (convert 51 9 (.slice (some a) 1 1)).run Tryz.prog w = .ok (.string ⟨#[UInt8.ofNat x.toNat]⟩) w := by
  have h := run_convert_bytes_string (P := Tryz.prog) w 51 9 5 (some a) 1 1 Tryz.underlying51 Tryz.underlying5 Tryz.underlying9
  rw [h]
  have hl := run_loadCells_list (P := Tryz.prog) w a [.int .u8 x] (fun j v hj => by
    have hj0 : j = 0 := by have := (List.getElem?_eq_some_iff.1 hj).1; simp at this; exact this
    subst hj0
    simp at hj
    subst hj
    simpa [Addr.add] using hc)
  rw [run_bytesToString w a 1 1 [x] (by simpa using hl)]
  simp [ByteArray.push]

set_option maxHeartbeats 1000000 in
theorem spec_FormatInt_any (n : Int) (w : World) (hw : (Lit.int .i64 n).wf = true) : Calls Tryz.prog 16 #[.int .i64 n] w (Gives w (.string ⟨(itoa n).toArray⟩)) := by
  have hbn := wf_bounds hw
  by_cases h0 : n = 0
  · subst h0
    have e : itoa 0 = [48] := by unfold itoa; rw [if_neg (by omega)]; exact Lib.decDigits_one (by decide)
    rw [e]
    go_enter Tryz.func16, Tryz.ntmps16
    go_wp2
    go_ret
    exact ⟨rfl, Below.refl _ _⟩
  have hN : 0 < n.natAbs := by omega
  have hS : ∀ b, (n < 0 ↔ b = true) → itoa n = if b then 45 :: decDigits n.natAbs else decDigits n.natAbs := by
    intro b hb
    unfold itoa
    by_cases h : n < 0
    · rw [if_pos h, if_pos (hb.1 h)]
    · rw [if_neg h, if_neg (fun e => h (hb.2 e))]
      congr 1
      omega
  generalize hR : itoa n = R at *
  go_enter Tryz.func16, Tryz.ntmps16
  go_wp2
  go_loopw [0, 3] (fun nv ov wr => ∃ (m : Int) (out : List UInt8), nv = .int .i64 m ∧ ov = .string ⟨out.toArray⟩ ∧ digSt n.natAbs m.natAbs out ∧ m.natAbs ≤ n.natAbs ∧ Below w.heap.size w wr) (fun nv _ _ => (intOf nv).natAbs)
  case atStart => exact ⟨n, [], rfl, rfl, digSt_start hN, Nat.le_refl _, Below.refl _ _⟩
  case round =>
    obtain ⟨m, out, rfl, rfl, hst, hm, hb⟩ := hrel
    by_cases hz : m = 0
    · subst hz
      have hout := digSt_end hst
      subst hout
      have hl := digSt_len (N := n.natAbs) (by omega) hst
      clear hst
      by_cases hneg : n < 0
      · have hR2 : R = 45 :: decDigits n.natAbs := hS true (by simp [hneg])
        subst hR2
        have hadd := run_string_add_sum (P := Tryz.prog) wr ⟨#[45]⟩ ⟨(decDigits n.natAbs).toArray⟩ (by simp [ByteArray.size]; omega)
        have ee : (⟨#[45]⟩ : ByteArray) ++ ⟨(decDigits n.natAbs).toArray⟩ = ⟨(45 :: decDigits n.natAbs).toArray⟩ := ByteArray.mk_append_mk [45] _
        rw [ee] at hadd
        clear hS hl
        go_wp2
        go_ret
        exact ⟨rfl, hb⟩
      · have hR2 : R = decDigits n.natAbs := hS false (by simp [hneg])
        subst hR2
        clear hS hl
        go_wp2
        go_ret
        exact ⟨rfl, hb⟩
    · have hl := digSt_len (N := n.natAbs) (by omega) hst
      have hst' := digSt_step hst (by omega)
      obtain ⟨k, hk⟩ : ∃ k : Nat, k = m.natAbs % 10 := ⟨_, rfl⟩
      have hk10 : k < 10 := by omega
      rw [← hk] at hst'
      have htd : (m.tdiv 10).natAbs = m.natAbs / 10 := Int.natAbs_tdiv m 10
      have htm : (m.tmod 10).natAbs = k := by rw [Int.natAbs_tmod]; exact hk.symm
      rw [← htd] at hst'
      have hbyte : UInt8.ofNat (48 + (k : Int)).toNat = UInt8.ofNat (48 + k) := by congr 1
      have hcv := convB1 (wr.alloc (.cells #[.int .u8 (48 + (k : Int))] 5)) ⟨wr.heap.size, 0, none⟩ (48 + k) (World.cell?_alloc_at _ _ _ _ rfl)
      rw [hbyte] at hcv
      clear hbyte
      have hadd := run_string_add_sum (P := Tryz.prog) (wr.alloc (.cells #[.int .u8 (48 + (k : Int))] 5)) ⟨#[UInt8.ofNat (48 + k)]⟩ ⟨out.toArray⟩ (by simp [ByteArray.size]; omega)
      have ee : (⟨#[UInt8.ofNat (48 + k)]⟩ : ByteArray) ++ ⟨out.toArray⟩ = ⟨(UInt8.ofNat (48 + k) :: out).toArray⟩ := ByteArray.mk_append_mk [UInt8.ofNat (48 + k)] _
      rw [ee] at hadd
      have e2 : wrap64 (48 + (k : Int)) = 48 + k := IntWalk.wrap64_in _ ⟨by omega, by omega⟩
      have e3 : (48 + (k : Int)) % 256 = 48 + k := by omega
      have e4 : wrap64 (m.tdiv 10) = m.tdiv 10 := IntWalk.wrap64_in _ ⟨by omega, by omega⟩
      have E4 := Lib.hid e4
      clear e4
      have hb' : Below w.heap.size w (wr.alloc (.cells #[.int .u8 (48 + (k : Int))] 5)) := hb.alloc hb.size _
      generalize UInt8.ofNat (48 + k) = bt at *
      have Hst := Lib.hid hst'; have Hm := Lib.hid (show (m.tdiv 10).natAbs ≤ n.natAbs ∧ (m.tdiv 10).natAbs < m.natAbs by omega)
      clear hS hl hst' hst ee hm
      by_cases hd : m.tmod 10 < 0
      · have ht : m.tmod 10 = -(k : Int) := by omega
        have e1 : wrap64 (-(-(k : Int))) = k := by rw [Int.neg_neg]; exact IntWalk.wrap64_in _ ⟨by omega, by omega⟩
        rw [ht] at hd
        clear htd htm hk
        go_wp2
        go_roundw
        case rel => exact ⟨m.tdiv 10, _, by rw [E4.out], rfl, Hst.out, Hm.out.1, hb'⟩
        case measure => rw [E4.out]; exact Hm.out.2
      · have ht : m.tmod 10 = (k : Int) := by omega
        rw [ht] at hd
        clear htd htm hk
        go_wp2
        go_roundw
        case rel => exact ⟨m.tdiv 10, _, by rw [E4.out], rfl, Hst.out, Hm.out.1, hb'⟩
        case measure => rw [E4.out]; exact Hm.out.2

theorem addS (W : World) (x y z : List UInt8) (hz : x ++ y = z) (h : z.length ≤ 9223372036854775807) : (Op.stringOp .add ⟨x.toArray⟩ ⟨y.toArray⟩).run Tryz.prog W = .ok (.string ⟨z.toArray⟩) W := by
  subst hz
  rw [List.length_append] at h
  rw [run_string_add_sum W _ _ (by simp [ByteArray.size]; omega), ByteArray.mk_append_mk]

theorem rows_i64 {l : List (List Int)} (h : ∀ r ∈ l, I64s r) {k : Nat} (hk : k < l.length) : I64s (l.getD k []) := by
  apply h
  simp [List.getD, hk]
theorem cellsOf_take_le (l : List (List Int)) (k : Nat) : cellsOf (l.take k) ≤ cellsOf l := by
  unfold cellsOf
  have h : (l.map List.length).sum = ((l.take k).map List.length).sum + ((l.drop k).map List.length).sum := by
    rw [← List.sum_append, ← List.map_append, List.take_append_drop]
  omega
theorem rowsL_take_len {l : List (List Int)} {sep : List UInt8} (h : ∀ r ∈ l, I64s r) (hs : sep.length ≤ 1) (hl : l.length ≤ 1099511627776) (hcl : cellsOf l ≤ 1099511627776) (k : Nat) : (rowsL sep (l.take k)).length ≤ 9223372036854775807 := by
  have h1 := rowsL_len (l := l.take k) (sep := sep) (fun r hr => h r (List.mem_of_mem_take hr))
  have h2 := cellsOf_take_le l k
  have h3 : (l.take k).length ≤ l.length := by rw [List.length_take]; omega
  have h4 : sep.length * (l.take k).length ≤ 1 * (l.take k).length := Nat.mul_le_mul_right _ hs
  omega

theorem isC_row {c : List (List Int)} (h : IsC c) {i : Nat} (hi : i < c.length) : (c.getD i []).length = c.length := h.2.2.1 i hi
theorem isC_i64 {c : List (List Int)} (h : IsC c) : ∀ r ∈ c, I64s r := by
  intro r hr x hx
  obtain ⟨i, hi, rfl⟩ := List.mem_iff_getElem.1 hr
  obtain ⟨j, hj, rfl⟩ := List.mem_iff_getElem.1 hx
  have e1 : c.getD i [] = c[i] := by simp [List.getD, hi]
  have hj2 : j < c.length := by have := isC_row h hi; rw [e1] at this; omega
  have he := h.2.2.2 i hi j hj2
  have e2 : ent c i j = c[i][j] := by unfold ent; rw [e1]; simp [List.getD, hj]
  unfold EntOk at he
  rw [e2] at he
  simp [Lit.wf, IntKind.min, IntKind.max, IntKind.signed, IntKind.bits]
  split at he <;> omega
theorem cellsOf_le {l : List (List Int)} {m : Nat} (h : ∀ r ∈ l, r.length ≤ m) : cellsOf l ≤ m * l.length := by
  unfold cellsOf
  induction l with
  | nil => simp
  | cons r l ih =>
    have a := h r (by simp)
    have b := ih fun y hy => h y (by simp [hy])
    simp only [List.map_cons, List.sum_cons, List.length_cons]
    rw [Nat.mul_succ]
    omega
theorem isC_cells {c : List (List Int)} (h : IsC c) : cellsOf c ≤ 16 := by
  have h1 : ∀ r ∈ c, r.length ≤ 4 := by
    intro r hr
    obtain ⟨i, hi, rfl⟩ := List.mem_iff_getElem.1 hr
    have e1 : c.getD i [] = c[i] := by simp [List.getD, hi]
    have := isC_row h hi
    rw [e1] at this
    have := h.2.1
    omega
  have := cellsOf_le h1
  have := h.2.1
  omega
def preL (c : List (List Int)) (i : Nat) : List UInt8 := if 0 < i then rowsL [59] (c.take i) ++ [59] else []
theorem preL_row {c : List (List Int)} {i : Nat} (hi : i < c.length) : preL c i ++ weightL (c.getD i []) = rowsL [59] (c.take (i + 1)) := by
  unfold preL
  by_cases h : 0 < i
  · rw [if_pos h, rowsL_next hi h]
  · obtain rfl : i = 0 := by omega
    rw [if_neg (by omega), rowsL_first hi]
    rfl

theorem inRange_true {x : Int} (h : 0 ≤ x ∧ x < 4) : (decide (0 ≤ x) && decide (x ≤ 3)) = true := by simp; omega
theorem inRange_false {x : Int} (h : ¬ (0 ≤ x ∧ x < 4)) : (decide (0 ≤ x) && decide (x ≤ 3)) = false := by simp; omega
theorem wf_small {x : Int} (h : -1000 ≤ x ∧ x ≤ 1000) : (Lit.int .i64 x).wf = true := by
  simp [Lit.wf, IntKind.min, IntKind.max, IntKind.signed, IntKind.bits]; omega
set_option maxHeartbeats 1000000 in
theorem spec_FormatWord_any (g o n cp : Nat) (l : List Int) (w : World) (hn : l.length = n) (hl : l.length ≤ 1099511627776) (hg : g < w.heap.size) (hc : Cells w g o l) :
    Calls Tryz.prog 23 #[(Value.slice (some ⟨g, o, none⟩) n cp)] w (Gives w (.string ⟨(wordL l).toArray⟩)) := by
  subst hn
  generalize hR : wordL l = R
  have HR := Lib.hid hR
  clear hR
  go_enter Tryz.func23, Tryz.ntmps23
  go_wp2
  go_loopw [3, 4] (fun sv iv wr => ∃ k : Nat, k ≤ l.length ∧ iv = .int .i64 k ∧ sv = .string ⟨(digs (l.take k)).toArray⟩ ∧ (∀ j, j < k → 0 ≤ l.getD j 0 ∧ l.getD j 0 < 4) ∧ Below w.heap.size w wr) (fun _ iv _ => l.length - (intOf iv).toNat)
  case atStart => exact ⟨0, Nat.zero_le _, rfl, rfl, by omega, Below.refl _ _⟩
  case round =>
    obtain ⟨k, hk, rfl, rfl, hin, hb⟩ := hrel
    by_cases hlt : k < l.length
    · have q1 := (hb.cell (p := ⟨g, o + k, none⟩) hg).trans (hc k hlt)
      have hin1 := spec_l1In (l.getD k 0) 0 3 wr
      by_cases hx : 0 ≤ l.getD k 0 ∧ l.getD k 0 < 4
      · have hd : (decide (0 ≤ l.getD k 0) && decide (l.getD k 0 ≤ 3)) = true := inRange_true hx
        rw [hd] at hin1
        have hcall := fun W => spec_FormatInt_any (l.getD k 0 + 1) W (wf_small ⟨by omega, by omega⟩)
        have Hcall := Lib.hid hcall
        have Hin1 := Lib.hid hin1
        have HS := Lib.hid (digs_take hlt)
        have Hl : Hid ((digs (l.take k)).length ≤ 1099511627776) := Lib.hid (by unfold digs; rw [List.length_map, List.length_take]; omega)
        have Hnext : Hid (∀ j, j < k + 1 → 0 ≤ l.getD j 0 ∧ l.getD j 0 < 4) := Lib.hid fun j hj => by
          by_cases e : j = k
          · subst e; exact hx
          · exact hin j (by omega)
        rw [itoa_letter hx.1 hx.2] at Hcall
        have ew : wrap64 (l.getD k 0 + 1) = l.getD k 0 + 1 := IntWalk.wrap64_in _ ⟨by omega, by omega⟩
        generalize UInt8.ofNat (49 + (l.getD k 0).toNat) = bt at Hcall HS
        generalize digs (l.take k) = S1 at *
        generalize l.getD k 0 = x at *
        clear hcall hin1 hd hin hx
        go_wp2_with fail
        refine Hin1.out.mono ?_
        rintro e w1 ⟨rfl, m1, rfl⟩
        go_wp2_with fail
        refine (Hcall.out _).mono ?_
        rintro e w2 ⟨rfl, hb2⟩
        have hB := hb.trans ((below_drewN' wr m1).mono hb.size)
        have hB := hB.trans (hb2.mono hB.size)
        have e2 := addS w2 S1 [bt] _ rfl (by have := Hl.out; simp only [List.length_append, List.length_cons, List.length_nil]; omega)
        go_wp2_with fail
        go_roundw
        case rel => exact ⟨k + 1, by omega, by go_num, by rw [HS.out], Hnext.out, hB⟩
        case measure => simp [intOf]; omega
      · have hd : (decide (0 ≤ l.getD k 0) && decide (l.getD k 0 ≤ 3)) = false := inRange_false hx
        rw [hd] at hin1
        have hR : R = [] := by rw [← HR.out]; unfold wordL; rw [if_neg (by omega), if_neg (not_inW hlt hx)]
        subst hR
        have Hin1 := Lib.hid hin1
        generalize l.getD k 0 = x at q1 Hin1
        clear hin1 hd hin hx HR
        go_wp2_with fail
        refine Hin1.out.mono ?_
        rintro e w1 ⟨rfl, m1, rfl⟩
        go_wp2
        go_ret
        exact ⟨rfl, hb.trans ((below_drewN' wr m1).mono hb.size)⟩
    · obtain rfl : k = l.length := by omega
      rw [List.take_length] at *
      by_cases hz : l.length = 0
      · have e : R = [101] := by rw [← HR.out]; unfold wordL; rw [if_pos hz]
        have e2 : digs l = [] := by rw [List.length_eq_zero_iff.1 hz]; rfl
        subst e
        rw [e2] at *
        clear HR hin
        go_wp2
        go_ret
        exact ⟨rfl, hb⟩
      · have e : R = digs l := by rw [← HR.out]; unfold wordL; rw [if_neg hz, if_pos (inW_of_take hin)]
        have e2 : ¬ digs l = [] := by
          intro h
          have := congrArg List.length h
          unfold digs at this
          rw [List.length_map] at this
          exact hz this
        subst e
        have e3 : (digs l).isEmpty = false := by simpa using e2
        clear HR hin
        go_wp2
        go_ret
        exact ⟨rfl, hb⟩
end Go.Proofs.YtobeigdjhepedaaGreatDoor
namespace Go.Proofs.YtobeigdjhepedaaGreatDoor
set_option maxRecDepth 100000
open Go.RowKit

theorem infoStr : (Tryz.prog.info? 9).map (fun i => (i.zero, i.size, i.bytes)) = some (some (.string ⟨#[]⟩), 1, 16) := by kernel_rfl
def OwnStrs (w : World) (B g cap : Nat) (xs : List ByteArray) : Prop := OwnK w B 9 1 g cap xs.length (xs.map Value.string)
section
variable {w w' : World} {B g cap : Nat} {xs : List ByteArray}
theorem OwnStrs.empty (hB : B ≤ w.heap.size) : OwnStrs (w.alloc (.cells #[] 9)) B w.heap.size 0 [] := World.ownsRow_lit w #[] 0 hB (by decide) rfl
theorem OwnStrs.one (x : ByteArray) (hB : B ≤ w.heap.size) : OwnStrs (w.alloc (.cells #[.string x] 9)) B w.heap.size 1 [x] := World.ownsRow_lit w #[.string x] 1 hB (by decide) rfl
theorem OwnStrs.cell (h : OwnStrs w B g cap xs) : ∀ (j : Nat) x, xs[j]? = some x → w.cell? ⟨g, 0 + j, none⟩ = some (.string x) := by
  intro j x hx
  have hj : j < xs.length := (List.getElem?_eq_some_iff.1 hx).1
  rw [Nat.zero_add, OwnK.cell h j (by rw [List.length_map]; exact hj)]
  have : xs[j] = x := by rw [List.getElem?_eq_getElem hj] at hx; exact Option.some.inj hx
  simp [this]
theorem OwnStrs.capLe (h : OwnStrs w B g cap xs) : xs.length ≤ cap := by obtain ⟨cur, -, h2, -⟩ := OwnK.row h; exact h2
theorem wpList_append_str {ops : Array Oper} {rest : List Oper} {o : Oper} {a : Act} {Q : Exit → Act → World → Prop} (hgd : o.guard = none) (s x : Operand)
    (ho : o.op = .call { callee := .builtin .append, args := #[s, x], argTypes := #[38, 38] })
    (B g cap n H : Nat) (xs : List ByteArray) (z : ByteArray) (w W : World) (hn : xs.length = n) (hW : W = w.alloc (.cells #[.string z] 9)) (hH : w.heap.size = H) (hown : OwnStrs w B g cap xs)
    (hs : a.eval s = (Value.slice (some ⟨g, 0, none⟩) n cap)) (hx : a.eval x = (Value.slice (some ⟨H, 0, none⟩) 1 1)) (hlen : n + 1 ≤ 1048576)
    (h : ∀ g' cap' w', OwnStrs w' B g' cap' (xs ++ [z]) → w.grownBy w' (some g) → (g' = g ∨ w.heap.size < g') → wpList Tryz.prog ops Q rest (a.put o.dst (Value.slice (some ⟨g', 0, none⟩) (n + 1) cap')) w') :
    wpList Tryz.prog ops Q (o :: rest) a W := by
  subst hn; subst hW; subst hH
  have hnew := OwnStrs.one (w := w) (B := w.heap.size) z (Nat.le_refl _)
  refine wpList_append_K infoStr Tryz.underlying38 rfl (by decide) (by decide) hgd s x ho B g cap xs.length (xs.map Value.string) (OwnK.alloc hown _) w.heap.size 0 1 1 [.string z] rfl ?_ ?_ hs hx hlen ?_
  · intro j u hu
    have hj : j = 0 := by have := (List.getElem?_eq_some_iff.1 hu).1; simp at this; exact this
    subst hj
    have := hnew.cell 0 z rfl
    rw [this]
    simpa using hu
  · intro u hu
    simp at hu
    subst hu
    rfl
  · intro g' cap' w' h2 h3 h4
    refine h g' cap' w' ?_ ⟨h3.os, h3.tape, h3.output, Nat.le_trans (by simp) h3.size, fun k hk hne => (h3.block k (by simp; omega) hne).trans (Below.heap_alloc _ _ _ hk)⟩ (h4.imp id (by simp; omega))
    unfold OwnStrs
    rw [List.map_append, List.length_append]
    exact h2
end

end Go.Proofs.YtobeigdjhepedaaGreatDoor
