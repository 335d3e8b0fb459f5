/- The laws' helpers: big, at, sameInts, sameWords. (Split off Draw3.) A code among the arguments, opened: its bytes. Determinants of small matrices, sets of points, finite types: plain law. Sets of bits, picked matrices: contracts. -/
import Derived.Test.YtkjglfafphffiaaGreatT03
import Derived.Deep.Matrix
import Derived.Lib.SmallJoins
import Derived.Test.YtkjglfafphffiaaGreatT01
import Derived.Lib.RabinKarpLaws
namespace Go.Proofs.YtkjglfafphffiaaGreat
set_option maxRecDepth 100000
open Go.RowKit
theorem CodeV.mono {w : World} {B B' : Nat} {a : Option Addr} {n : Nat} (h : CodeV w B a n) (hB : B ≤ B') : CodeV w B' a n := by
  rcases h with h | ⟨g, o, e, h1, h2, h3⟩
  · exact .inl h
  · exact .inr ⟨g, o, e, Nat.lt_of_lt_of_le h1 hB, h2, h3⟩
theorem laws_big_any (a : Option Addr) (n c : Nat) (w : World) : Calls Tryz.prog 4 #[.slice a n c] w (Reads w (.bool (decide (1048576 < n)))) := by
  have e : decide ((1048576 : Int) < (n : Int)) = decide (1048576 < n) := by rw [decide_eq_decide]; omega
  go_enter Tryz.func4, Tryz.ntmps4
  go_wp2_with fail
  go_ret
  exact ⟨by first | rfl | exact ret_bool e, (by first | exact ⟨_, rfl⟩ | exact ⟨0, rfl⟩ | exact still2 _ _ _ | exact still3 _ _ _ _)⟩
theorem laws_sameInts_same (g1 o1 n1 c1 g2 o2 n2 c2 : Nat) (xs : List Int) (w : World) (hn1 : xs.length = n1) (hn2 : xs.length = n2) (hx : xs.length ≤ 1048576) (h1 : Cells w g1 o1 xs) (h2 : Cells w g2 o2 xs) :
    Calls Tryz.prog 13 #[(Value.slice (some ⟨g1, o1, none⟩) n1 c1), (Value.slice (some ⟨g2, o2, none⟩) n2 c2)] w (Reads w (.bool true)) := by
  subst hn1; subst hn2
  go_enter Tryz.func13, Tryz.ntmps13
  go_wp2_with fail
  go_loopw [5] (fun i wr => ∃ k : Nat, k ≤ xs.length ∧ i = .int .i64 k ∧ ∃ q, wr = w.drewN q) (fun i _ => xs.length - (intOf i).toNat)
  case atStart => exact ⟨0, Nat.zero_le _, rfl, (by first | exact ⟨_, rfl⟩ | exact ⟨0, rfl⟩ | exact still2 _ _ _ | exact still3 _ _ _ _)⟩
  case round =>
    obtain ⟨k, hk, rfl, q, rfl⟩ := hrel
    by_cases hlt : k < xs.length
    · have q1 := h1 k hlt
      have q2 := h2 k hlt
      generalize xs.getD k 0 = z at *
      go_wp2_with fail
      go_quiet (fail)
      go_wp2_with fail
      go_roundw
      case rel => exact ⟨k + 1, by omega, by go_num, (by first | exact ⟨_, rfl⟩ | exact ⟨0, rfl⟩ | exact still2 _ _ _ | exact still3 _ _ _ _)⟩
      case measure => simp [intOf]; omega
    · obtain rfl : k = xs.length := by omega
      go_wp2_with fail
      go_ret
      exact ⟨rfl, (by first | exact ⟨_, rfl⟩ | exact ⟨0, rfl⟩ | exact still2 _ _ _ | exact still3 _ _ _ _)⟩
end Go.Proofs.YtkjglfafphffiaaGreat
namespace Go.Proofs.YtkjglfafphffiaaGreat
set_option maxRecDepth 100000
open Go.Joins Go.ChangeShapes Go.WideShapes Go.RowKit Go.Deep
section
variable {H : Type} {enc : TypeId × Value → H} {w : World} {base : Nat}
theorem argCode_open {fuel : Nat} {v : Value} {x : DataW H × List MemPlace} (h : DataW.trod enc Tryz.prog w base (fun _ => true) true fuel 22 [v] = some x) :
    ∃ a n c, v = .slice a n c ∧ CodeV w w.heap.size a n ∧ n ≤ maxLen := by
  rcases open_ints Tryz.underlying22 Tryz.underlying5 (by kernel_rfl) h with ⟨hcs, _⟩ | ⟨a, l, c, zs, hcs, _, hl, hm, hz, _, hcell, hwz⟩
  · simp at hcs
    exact ⟨none, 0, 0, hcs, .inl rfl, Nat.zero_le _⟩
  · simp at hcs
    have hz' : zs.length = c := by simpa using hz
    refine ⟨some a, l, c, hcs, ?_, by omega⟩
    by_cases h0 : l = 0
    · exact .inl h0
    obtain ⟨b, o, s⟩ := a
    have hc0 := hcell 0 (by omega)
    cases s with
    | some s => simp [World.cell?, Addr.add] at hc0; split at hc0 <;> simp_all
    | none =>
      refine .inr ⟨b, o, rfl, World.block_lt_of_cell? w _ hc0, World.block_lt_of_cell? w _ hc0, fun j hj => ?_⟩
      have hj' : j < zs.length := by omega
      have hcj := hcell j hj'
      rw [Addr.add_lit] at hcj
      have hwf := hwz (zs.getD j 0) (by simp [List.getD, hj'])
      refine ⟨zs.getD j 0, ?_, hcj⟩
      generalize zs.getD j 0 = z at *
      have h3 : 0 ≤ z ∧ z ≤ 255 := by simpa [Lit.wf, IntKind.min, IntKind.max, IntKind.signed, IntKind.bits] using hwf
      omega
variable {v : Value} {d : DataW H} {p : List MemPlace} {r : Reach} {b0 : Nat}
theorem argCode_at (hv : Value.okWide Tryz.prog w r b0 22 v) (h : DataW.Trod enc Tryz.prog w base (fun _ => true) true 22 v d p) :
    ∃ a n c, v = .slice a n c ∧ Hid (CodeV w w.heap.size a n) ∧ n ≤ maxLen := by
  obtain ⟨a, l, c, rfl⟩ := okWide_slice Tryz.underlying22 hv
  obtain ⟨fuel, hf⟩ := h
  exact argCode_open hf
end
end Go.Proofs.YtkjglfafphffiaaGreat
namespace Go.Proofs.YtkjglfafphffiaaGreat
set_option maxRecDepth 100000
def sumTo : Nat → (Nat → Int) → Int
  | 0, _ => 0
  | k + 1, g => sumTo k g + g k
def sgn (j : Nat) : Int := if j % 2 = 0 then 1 else -1
def cutAt (row : List Int) (j : Nat) : List Int := row.take j ++ row.drop (j + 1)
def minorOf (m : List (List Int)) (j : Nat) : List (List Int) := (m.drop 1).map fun row => cutAt row j
def det : Nat → List (List Int) → Int
  | 0, _ => 1
  | n + 1, m => sumTo (n + 1) fun j => sgn j * ent m 0 j * det n (minorOf m j)
/-- a square matrix of small numbers -/
def Sq (n : Nat) (m : List (List Int)) : Prop := m.length = n ∧ (∀ i, i < n → (m.getD i []).length = n) ∧ ∀ i j, -3 ≤ ent m i j ∧ ent m i j ≤ 3
def detB : Nat → Int
  | 0 => 1
  | n + 1 => (n + 1) * (3 * detB n)
theorem sumTo_bound (g : Nat → Int) (b : Int) (k : Nat) (h : ∀ j, j < k → -b ≤ g j ∧ g j ≤ b) : -(k * b) ≤ sumTo k g ∧ sumTo k g ≤ k * b := by
  induction k with
  | zero => simp [sumTo]
  | succ k ih =>
    have h1 := ih (fun j hj => h j (by omega))
    have h2 := h k (by omega)
    simp only [sumTo]
    have e : ((k + 1 : Nat) : Int) * b = k * b + b := by rw [Int.natCast_add, Int.add_mul]; simp
    rw [e]; omega
theorem cutAt_length {row : List Int} {j : Nat} (hj : j < row.length) : (cutAt row j).length = row.length - 1 := by
  simp [cutAt]; omega
theorem cutAt_getD (row : List Int) (j k : Nat) : (cutAt row j).getD k 0 = if k < j ∧ k < row.length then row.getD k 0 else row.getD (j + 1 + (k - min j row.length)) 0 := by
  unfold cutAt
  by_cases h : k < j ∧ k < row.length
  · rw [if_pos h]
    simp only [List.getD]
    rw [List.getElem?_append_left (by simp; omega), List.getElem?_take, if_pos h.1]
  · rw [if_neg h]
    simp only [List.getD]
    rw [List.getElem?_append_right (by simp; omega), List.getElem?_drop]
    simp only [List.length_take]
theorem minorOf_sq {n : Nat} {m : List (List Int)} {j : Nat} (h : Sq (n + 1) m) (hj : j < n + 1) : Sq n (minorOf m j) := by
  obtain ⟨h1, h2, h3⟩ := h
  have hg : ∀ i, (minorOf m j).getD i [] = cutAt (m.getD (i + 1) []) j := by
    intro i
    unfold minorOf
    simp only [List.getD, List.getElem?_map, List.getElem?_drop]
    rw [Nat.add_comm 1 i]
    cases m[i + 1]? with
    | none => simp [cutAt]
    | some r => simp
  refine ⟨by simp [minorOf, h1], fun i hi => ?_, fun i k => ?_⟩
  · rw [hg, cutAt_length (by rw [h2 _ (by omega)]; exact hj), h2 _ (by omega)]; omega
  · unfold ent
    rw [hg, cutAt_getD]
    split
    · exact h3 _ _
    · exact h3 _ _
theorem det_bound : ∀ (n : Nat) (m : List (List Int)), Sq n m → -(detB n) ≤ det n m ∧ det n m ≤ detB n := by
  intro n
  induction n with
  | zero => intro m _; simp [det, detB]
  | succ n ih =>
    intro m hm
    have hterm : ∀ j, j < n + 1 → -(3 * detB n) ≤ sgn j * ent m 0 j * det n (minorOf m j) ∧ sgn j * ent m 0 j * det n (minorOf m j) ≤ 3 * detB n := by
      intro j hj
      have h1 := ih _ (minorOf_sq hm hj)
      have h2 := hm.2.2 0 j
      generalize det n (minorOf m j) = d at *
      generalize ent m 0 j = x at *
      generalize detB n = D at *
      have hx : x = -3 ∨ x = -2 ∨ x = -1 ∨ x = 0 ∨ x = 1 ∨ x = 2 ∨ x = 3 := by omega
      unfold sgn
      split <;> rcases hx with rfl | rfl | rfl | rfl | rfl | rfl | rfl <;> omega
    have := sumTo_bound _ _ (n + 1) hterm
    simpa [det, detB] using this
end Go.Proofs.YtkjglfafphffiaaGreat
namespace Go.Proofs.YtkjglfafphffiaaGreat
set_option maxRecDepth 100000
open Go.RowKit
def setNat (m t : Nat) : List Nat := (List.range t).filter fun i => decide (m / 2 ^ i % 2 = 1)
def setTo (m t : Nat) : List Int := (setNat m t).map fun i : Nat => (i : Int)
def setL (m : Nat) : List Int := setTo m 4
theorem setNat_succ (m t : Nat) : setNat m (t + 1) = if m / 2 ^ t % 2 = 1 then setNat m t ++ [t] else setNat m t := by
  unfold setNat
  rw [List.range_succ, List.filter_append]
  split
  · rename_i h; simp [h]
  · rename_i h; simp [h]
theorem setTo_one {m t : Nat} (h : m / 2 ^ t % 2 = 1) : setTo m (t + 1) = setTo m t ++ [(t : Int)] := by
  unfold setTo; rw [setNat_succ, if_pos h]; simp
theorem setTo_zero {m t : Nat} (h : ¬ m / 2 ^ t % 2 = 1) : setTo m (t + 1) = setTo m t := by
  unfold setTo; rw [setNat_succ, if_neg h]
theorem setTo_len (m t : Nat) : (setTo m t).length ≤ t := by
  unfold setTo setNat
  rw [List.length_map]
  exact Nat.le_trans (List.length_filter_le _ _) (by simp)
theorem setTo_stop {m t : Nat} (h : m / 2 ^ t = 0) : ∀ k, setTo m (t + k) = setTo m t := by
  intro k
  induction k with
  | zero => rfl
  | succ k ih =>
    rw [← Nat.add_assoc, setTo_zero, ih]
    have : m / 2 ^ (t + k) = 0 := by
      rw [Nat.pow_add, ← Nat.div_div_eq_div_mul, h]; simp
    rw [this]; decide
theorem and1 {q : Nat} (hq : q ≤ 32) : bits BinOp.and IntKind.i64 (q : Int) 1 = ((q % 2 : Nat) : Int) := by
  rw [and_one _ (by omega)]
theorem and1_at (m t : Nat) (hm : m ≤ 15) : bits BinOp.and IntKind.i64 ((m : Int) / 2 ^ t) 1 = ((m / 2 ^ t % 2 : Nat) : Int) := by
  have e : ((m : Int) / 2 ^ t) = ((m / 2 ^ t : Nat) : Int) := by simp
  have h : m / 2 ^ t ≤ m := Nat.div_le_self _ _
  rw [e, and1 (by omega)]
set_option maxHeartbeats 1000000 in
theorem impl_setOf_any (m : Nat) (w : World) (hm : m ≤ 15) : Calls Tryz.prog 92 #[.int .i64 m] w (GotInts w (setL m)) := by
  go_enter Tryz.func92, Tryz.ntmps92
  go_wp2
  go_loopw [3, 4] (fun s i wr => ∃ t g' c' n' : Nat, t ≤ 4 ∧ i = .int .i64 t ∧ s = (Value.slice (some ⟨g', 0, none⟩) n' c') ∧ Hid ((setTo m t).length = n') ∧ Own wr w.heap.size g' c' (setTo m t) ∧ Below w.heap.size w wr) (fun _ i _ => 4 - (intOf i).toNat)
  case atStart => exact ⟨0, w.heap.size, 0, 0, by omega, rfl, rfl, rfl, Own.empty (w := w) (Nat.le_refl _), (Below.refl _ _).alloc (Nat.le_refl _) _⟩
  case round =>
    obtain ⟨t, g', c', n', ht, rfl, rfl, hn, ho, hb⟩ := hrel
    have hand := and1_at m t hm
    have hle := setTo_len m t
    rw [hn.out] at hle
    have eI : ((m : Int) / 2 ^ t) = ((m / 2 ^ t : Nat) : Int) := by simp
    by_cases hpos : 0 < m / 2 ^ t
    · have ht4 : t < 4 := by
        rcases Nat.lt_or_ge t 4 with h | h
        · exact h
        · obtain rfl : t = 4 := by omega
          have : m / 2 ^ 4 = 0 := by omega
          omega
      have Ht4 := Lib.hid ht4
      have hposI : (0 : Int) < (m : Int) / 2 ^ t := by rw [eI]; omega
      by_cases hbit : m / 2 ^ t % 2 = 1
      · rw [hbit] at hand
        have hS := setTo_one hbit
        have HS := Lib.hid hS
        clear hS eI hpos hbit
        go_wp2_with (at_builtin; refine wpList_append_int_n rfl _ _ rfl w.heap.size g' c' n' (setTo m t) (t : Int) hn.out ho rfl rfl (by omega) ?_)
        intro g2 c2 w2 ho2 hg2 _
        go_wp2
        go_roundw
        case rel =>
          rw [← HS.out] at ho2
          exact ⟨t + 1, g2, c2, n' + 1, by omega, by go_num, rfl, by show _ = _; rw [HS.out, List.length_append, hn.out]; rfl, ho2, hb.grown hg2 hb.size (by intro j hj; cases hj; exact ho.base)⟩
        case measure => simp [intOf]; omega
      · have hb0 : m / 2 ^ t % 2 = 0 := by omega
        rw [hb0] at hand
        have hS := setTo_zero hbit
        have HS := Lib.hid hS
        clear hS eI hpos hbit hb0
        go_wp2
        go_roundw
        case rel => exact ⟨t + 1, g', c', n', by have := Ht4.out; omega, by go_num, rfl, by show _ = _; rw [HS.out]; exact hn.out, by rw [HS.out]; exact ho, hb⟩
        case measure => have := Ht4.out; simp [intOf]; omega
    · have hz : m / 2 ^ t = 0 := Nat.eq_zero_of_not_pos hpos
      have hzI : (m : Int) / 2 ^ t = 0 := by rw [eI, hz]; rfl
      have hS : setL m = setTo m t := by
        have := setTo_stop hz (4 - t)
        have h4 : t + (4 - t) = 4 := by omega
        rw [h4] at this
        exact this
      have HS := Lib.hid hS
      clear hS eI hpos hz hand
      go_wp2
      go_ret
      have hSS := HS.out
      rw [hSS]
      exact GotInts.mk' g' c' hn.out ho hb
def pickRow (c : List (List Int)) (i : Int) (s : List Int) : List Int := s.map fun j => ent c i.toNat j.toNat
def pickL (c : List (List Int)) (s : List Int) : List (List Int) := s.map fun i => pickRow c i s
theorem contents_push (rs : List RowRef) (r : RowRef) : contents (rs ++ [r]) = contents rs ++ [r.2.2] := by simp [contents]
theorem take_map_succ {α : Type} (f : Int → α) (s : List Int) (t : Nat) (ht : t < s.length) : (s.take (t + 1)).map f = (s.take t).map f ++ [f (s.getD t 0)] := by
  rw [List.take_succ_eq_append_getElem ht, List.map_append]; simp [List.getD, ht]
set_option maxHeartbeats 2000000 in
theorem impl_picked_any (gc oc n cc g o m cs : Nat) (c : List (List Int)) (s : List Int) (w : World) (hn : c.length = n) (hm : s.length = m) (hs4 : s.length ≤ 4) (hrl : ∀ j, j < c.length → (c.getD j []).length = c.length)
    (hs : ∀ t, t < s.length → 0 ≤ s.getD t 0 ∧ s.getD t 0 < c.length) (hgc : gc < w.heap.size) (hg : g < w.heap.size) (hr : Rows2 w gc oc c) (hc : Cells w g o s) :
    Calls Tryz.prog 100 #[(Value.slice (some ⟨gc, oc, none⟩) n cc), (Value.slice (some ⟨g, o, none⟩) m cs)] w (GotRows w (pickL c s)) := by
  subst hn; subst hm
  go_enter Tryz.func100, Tryz.ntmps100
  go_wp2
  go_loopw [5, 14] (fun x i wr => ∃ (t g' c' : Nat) (rs : List RowRef), t ≤ s.length ∧ i = .int .i64 t ∧ x = (Value.slice (some ⟨g', 0, none⟩) t c') ∧ Hid (rs.length = t) ∧ Hid (contents rs = (s.take t).map fun i => pickRow c i s) ∧ OwnRows wr w.heap.size g' c' rs ∧ Below w.heap.size w wr) (fun _ i _ => s.length - (intOf i).toNat)
  case atStart => exact ⟨0, w.heap.size, 0, [], Nat.zero_le _, rfl, rfl, rfl, rfl, OwnRows.empty (Nat.le_refl _), (Below.refl _ _).alloc (Nat.le_refl _) _⟩
  case round =>
    obtain ⟨t, g', c', rs, ht, rfl, rfl, hrs, hcont, ho, hb⟩ := hrel
    by_cases hlt : t < s.length
    · have p1 := hc.below hb hg t hlt
      have hst := hs t hlt
      have htk := take_map_succ (fun i => pickRow c i s) s t hlt
      obtain ⟨iN, hiN⟩ : ∃ iN : Nat, s.getD t 0 = iN := ⟨(s.getD t 0).toNat, by omega⟩
      rw [hiN] at p1 hst htk
      have hic : iN < c.length := by omega
      have Htk := Lib.hid htk; clear htk hst hiN
      obtain ⟨wo, rfl⟩ : ∃ wo : World, wo = wr := ⟨_, rfl⟩
      go_wp2
      go_loopw [8, 21] (fun x i wr => ∃ k gr cr : Nat, k ≤ s.length ∧ i = .int .i64 k ∧ x = (Value.slice (some ⟨gr, 0, none⟩) k cr) ∧ Own wr wo.heap.size gr cr (pickRow c iN (s.take k)) ∧ Below wo.heap.size wo wr) (fun _ i _ => s.length - (intOf i).toNat)
      case atStart => exact ⟨0, wo.heap.size, 0, Nat.zero_le _, rfl, rfl, Own.empty (Nat.le_refl _), (Below.refl _ _).alloc (Nat.le_refl _) _⟩
      case round =>
        obtain ⟨k, gr, cr, hk, rfl, rfl, hor, hb2⟩ := hrel
        have hbb : Below w.heap.size w wr := hb.trans (hb2.mono hb.size)
        by_cases hltk : k < s.length
        · have p2 := hc.below hbb hg k hltk
          have hsk := hs k hltk
          have htk2 := take_map_succ (fun j => ent c iN j.toNat) s k hltk
          obtain ⟨jN, hjN⟩ : ∃ jN : Nat, s.getD k 0 = jN := ⟨(s.getD k 0).toNat, by omega⟩
          rw [hjN] at p2 hsk htk2
          rw [Int.toNat_natCast] at htk2
          have hjc : jN < c.length := by omega
          have Htk2 := Lib.hid htk2; clear htk2 hsk hjN p1
          obtain ⟨ga, oa, ca, q1, q2, q3, q4⟩ := hr.below hbb hgc iN hic
          have hri := hrl iN hic
          have e2 := q4 jN (by rw [hri]; exact hjc)
          rw [hri] at q1
          have hee : (c.getD iN []).getD jN 0 = ent c iN jN := rfl
          rw [hee] at e2
          have hpl : (pickRow c iN (s.take k)).length = k := by simp [pickRow]; omega
          have Hpl := Lib.hid hpl; clear hpl hri hee
          generalize ent c iN jN = y at *
          go_wp2_with (at_builtin; refine wpList_append_int_n rfl _ _ rfl wo.heap.size gr cr k (pickRow c iN (s.take k)) y Hpl.out hor rfl rfl (by omega) ?_)
          intro g3 c3 w3 ho3 hg3 _
          go_wp2
          go_roundw
          case rel =>
            refine ⟨k + 1, g3, c3, by omega, by go_num, rfl, ?_, hb2.grown hg3 hb2.size (by intro j hj; cases hj; exact hor.base)⟩
            have := Htk2.out
            have e : pickRow c iN (s.take (k + 1)) = pickRow c iN (s.take k) ++ [y] := this
            rw [e]; exact ho3
          case measure => simp [intOf]; omega
        · obtain rfl : k = s.length := by omega
          rw [List.take_of_length_le (Nat.le_refl _)] at hor
          have hpl : (pickRow c iN s).length = s.length := by simp [pickRow]
          have ho2 := ho.below (hb2.mono (Nat.le_refl _))
          have hne : ∀ r ∈ rs, r.1 ≠ gr := fun r hr => by have h1 := (ho.2.1 r hr).lt; have h2 := hor.base; omega
          have hor2 := hor.mono hb.size
          have hrow : rowVal (gr, cr, pickRow c iN s) = (Value.slice (some ⟨gr, 0, none⟩) s.length cr) := by unfold rowVal; rw [hpl]
          clear p1 hpl
          go_wp2_with (at_builtin; refine wpList_append_row rfl _ _ rfl w.heap.size g' c' t wr.heap.size rs (gr, cr, pickRow c iN s) _ hrs.out (by rw [hrow]) rfl ho2 hor2 hne rfl rfl (by omega) ?_)
          intro g4 c4 w4 ho4 hg4 _
          go_wp2
          go_roundw
          case rel =>
            refine ⟨t + 1, g4, c4, rs ++ [(gr, cr, pickRow c iN s)], by omega, by go_num, rfl, by show _ = _; rw [List.length_append, hrs.out]; rfl, ?_, ho4, hbb.grown hg4 hbb.size (by intro j hj; cases hj; exact ho.base)⟩
            show _ = _
            rw [contents_push, hcont.out, Htk.out]
          case measure => simp [intOf]; omega
    · obtain rfl : t = s.length := by omega
      have hc2 := hcont.out
      rw [List.take_of_length_le (Nat.le_refl _)] at hc2
      have Hc2 := Lib.hid hc2
      clear hc2
      go_wp2
      go_ret
      refine ⟨g', c', rs, ?_, Hc2.out, ho, hb⟩
      simp [pickL]
end Go.Proofs.YtkjglfafphffiaaGreat
