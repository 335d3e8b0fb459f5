/- FmtW Tab Parts Fin Set Typ Chn -/
import Derived.Test.YtkjglfafphffiaaGreatDoorC03
import Derived.Test.YtkjglfafphffiaaGreatDoorC02
import Derived.Lib.AppendIntMem
import Derived.Test.YtkjglfafphffiaaGreatDoorC04
import Derived.Test.YtkjglfafphffiaaGreatDoorSlat
import Derived.Lib.SmallJoins
import Derived.Test.YtkjglfafphffiaaGreatDoorC01
import Derived.Lib.RabinKarpLaws
namespace Go.Proofs.YtkjglfafphffiaaGreatDoor
set_option maxRecDepth 100000
open Go.RowKit
set_option maxRecDepth 100000
theorem infoU8 : (Tryz.prog.info? 5).map (fun i => (i.zero, i.size, i.bytes)) = some (some (.int .u8 0), 1, 1) := by kernel_rfl
def u8V (b : UInt8) : Value := .int .u8 (b.toNat : Int)
def OwnBytes (w : World) (B g cap : Nat) (xs : List UInt8) : Prop := OwnK w B 5 1 g cap xs.length (xs.map u8V)
section
variable {w w' : World} {B g cap : Nat} {xs : List UInt8}
theorem OwnBytes.empty (hB : B ≤ w.heap.size) : OwnBytes (w.alloc (.cells #[] 5)) B w.heap.size 0 [] := World.ownsRow_lit w #[] 0 hB (by decide) rfl
theorem OwnBytes.one (x : UInt8) (hB : B ≤ w.heap.size) : OwnBytes (w.alloc (.cells #[u8V x] 5)) B w.heap.size 1 [x] := World.ownsRow_lit w #[u8V x] 1 hB (by decide) rfl
theorem OwnBytes.cell (h : OwnBytes w B g cap xs) (j : Nat) (hj : j < xs.length) : w.cell? ⟨g, j, none⟩ = some (u8V xs[j]) := by
  rw [OwnK.cell h j (by rw [List.length_map]; exact hj)]
  simp
theorem wpList_append_byte {ops : Array Oper} {rest : List Oper} {o : Oper} {a : Act} {Q : Exit → Act → World → Prop} (hgd : o.guard = none) (s x : Operand)
    (ho : o.op = .call { callee := .builtin .append, args := #[s, x], argTypes := #[22, 22] })
    (B g cap n H : Nat) (xs : List UInt8) (z : UInt8) (w W : World) (hn : xs.length = n) (hW : W = w.alloc (.cells #[u8V z] 5)) (hH : w.heap.size = H) (hown : OwnBytes w B g cap xs)
    (hs : a.eval s = (Value.slice (some ⟨g, 0, none⟩) n cap)) (hx : a.eval x = (Value.slice (some ⟨H, 0, none⟩) 1 1)) (hlen : n + 1 ≤ 1048576)
    (h : ∀ g' cap' w', OwnBytes w' B g' cap' (xs ++ [z]) → w.grownBy w' (some g) → (g' = g ∨ w.heap.size < g') → wpList Tryz.prog ops Q rest (a.put o.dst (Value.slice (some ⟨g', 0, none⟩) (n + 1) cap')) w') :
    wpList Tryz.prog ops Q (o :: rest) a W := by
  subst hn; subst hW; subst hH
  have hnew := OwnBytes.one (w := w) (B := w.heap.size) z (Nat.le_refl _)
  refine wpList_append_K infoU8 Tryz.underlying22 rfl (by decide) (by decide) hgd s x ho B g cap xs.length (xs.map u8V) (OwnK.alloc hown _) w.heap.size 0 1 1 [u8V z] rfl ?_ ?_ hs hx hlen ?_
  · intro j u hu
    have hj : j = 0 := by have := (List.getElem?_eq_some_iff.1 hu).1; simp at this; exact this
    subst hj
    have := hnew.cell 0 (by simp)
    rw [Nat.zero_add, this]
    simpa using hu
  · intro u hu
    simp at hu
    subst hu
    rfl
  · intro g' cap' w' h2 h3 h4
    refine h g' cap' w' ?_ ⟨h3.os, h3.tape, h3.output, Nat.le_trans (by simp) h3.size, fun k hk hne => (h3.block k (by simp; omega) hne).trans (Below.heap_alloc _ _ _ hk)⟩ (h4.imp id (by simp; omega))
    unfold OwnBytes
    rw [List.map_append, List.length_append]
    exact h2
end
theorem letterV {i : Int} (h0 : 0 ≤ i) (h1 : i < 4) : Value.int .u8 (49 + i) = u8V (UInt8.ofNat (49 + i.toNat)) := by
  unfold u8V
  rw [UInt8.toNat_ofNat']
  congr 1
  omega
set_option maxHeartbeats 1000000 in
theorem impl_FormatWord_any (g o n cp : Nat) (l : List Int) (w : World) (hn : l.length = n) (hl : l.length ≤ 1048576) (hg : g < w.heap.size) (hc : Cells w g o l) :
    Calls Tryz.prog 67 #[(Value.slice (some ⟨g, o, none⟩) n cp)] w (Gives w (.string ⟨(wordL l).toArray⟩)) := by
  subst hn
  by_cases hz : l.length = 0
  · have e : wordL l = [101] := by unfold wordL; rw [if_pos hz]
    rw [e, hz]
    go_enter Tryz.func67, Tryz.ntmps67
    go_wp2
    go_ret
    exact ⟨rfl, Below.refl _ _⟩
  have hz2 : ((l.length : Int) == 0) = false := by simpa using hz
  generalize hR : wordL l = R
  have HR := Lib.hid hR
  have Hz := Lib.hid hz
  clear hR hz
  go_enter Tryz.func67, Tryz.ntmps67
  go_wp2
  go_loopw [3, 12] (fun ov kv wr => ∃ (k g2 c2 : Nat), k ≤ l.length ∧ kv = .int .i64 k ∧ ov = (Value.slice (some ⟨g2, 0, none⟩) k c2) ∧ (∀ j, j < k → 0 ≤ l.getD j 0 ∧ l.getD j 0 < 4) ∧ OwnBytes wr w.heap.size g2 c2 (digs (l.take k)) ∧ Below w.heap.size w wr) (fun _ kv _ => l.length - (intOf kv).toNat)
  case atStart => exact ⟨0, _, 0, Nat.zero_le _, rfl, rfl, by omega, OwnBytes.empty (Nat.le_refl _), (Below.refl _ _).alloc (Nat.le_refl _) _⟩
  case round =>
    obtain ⟨k, g2, c2, hk, rfl, rfl, hin, ho, hb⟩ := hrel
    by_cases hlt : k < l.length
    · have q1 := (hb.cell (p := ⟨g, o + k, none⟩) hg).trans (hc k hlt)
      by_cases hx0 : l.getD k 0 < 0
      · have hR : R = [] := by rw [← HR.out]; unfold wordL; rw [if_neg Hz.out, if_neg (not_inW hlt (by omega))]
        subst hR
        generalize l.getD k 0 = x at *
        clear hin HR
        go_wp2
        go_ret
        exact ⟨rfl, hb⟩
      by_cases hx4 : 4 ≤ l.getD k 0
      · have hR : R = [] := by rw [← HR.out]; unfold wordL; rw [if_neg Hz.out, if_neg (not_inW hlt (by omega))]
        subst hR
        generalize l.getD k 0 = x at *
        clear hin HR
        go_wp2
        go_ret
        exact ⟨rfl, hb⟩
      have HS := Lib.hid (digs_take hlt)
      have Htl : Hid ((digs (l.take k)).length = k) := Lib.hid (by unfold digs; rw [List.length_map, List.length_take]; omega)
      have Hnext : Hid (∀ j, j < k + 1 → 0 ≤ l.getD j 0 ∧ l.getD j 0 < 4) := Lib.hid fun j hj => by
        by_cases e : j = k
        · subst e; exact ⟨by omega, by omega⟩
        · exact hin j (by omega)
      have ew : wrap64 (49 + l.getD k 0) = 49 + l.getD k 0 := IntWalk.wrap64_in _ ⟨by omega, by omega⟩
      have em : (49 + l.getD k 0) % 256 = 49 + l.getD k 0 := by omega
      have HV := Lib.hid (letterV (i := l.getD k 0) (by omega) (by omega))
      generalize UInt8.ofNat (49 + (l.getD k 0).toNat) = bt at HS HV
      generalize l.getD k 0 = x at hx0 hx4 q1 ew em HV
      clear hin
      go_wp2_with (at_builtin; refine wpList_append_byte rfl _ _ rfl w.heap.size g2 c2 k wr.heap.size (digs (l.take k)) bt wr _ Htl.out (by rw [← HV.out]) rfl ho rfl rfl (by omega) ?_)
      intro g3 c3 w3 ho3 hg3 hor3
      have hb3 : Below w.heap.size w w3 := hb.grown hg3 hb.size (by intro t ht; cases ht; exact OwnK.base ho)
      rw [← HS.out] at ho3
      clear ho hg3
      go_wp2_with fail
      go_roundw
      case rel => exact ⟨k + 1, g3, c3, by omega, by go_num, rfl, Hnext.out, ho3, hb3⟩
      case measure => simp [intOf]; omega
    · obtain rfl : k = l.length := by omega
      rw [List.take_length] at ho
      have hR : R = digs l := by rw [← HR.out]; unfold wordL; rw [if_neg Hz.out, if_pos (inW_of_take hin)]
      subst hR
      have hdl : (digs l).length = l.length := by unfold digs; rw [List.length_map]
      have hcv := run_convert_bytes_back (P := Tryz.prog) wr 22 9 5 ⟨g2, 0, none⟩ c2 (digs l) Tryz.underlying22 Tryz.underlying5 Tryz.underlying9 (fun j hj => by
        have := ho.cell j hj
        rw [Addr.add_lit, Nat.zero_add]
        exact this)
      rw [hdl] at hcv
      clear hin HR ho
      go_wp2
      go_ret
      exact ⟨rfl, hb⟩
end Go.Proofs.YtkjglfafphffiaaGreatDoor
namespace Go.Proofs.YtkjglfafphffiaaGreatDoor
set_option maxRecDepth 100000
open Go.RowKit
open Go.Lib (join decDigits itoa)
set_option maxRecDepth 100000
def Tab (w : World) : Prop := Lib.TabIs Tryz.prog w "internal/strconv.uint64pow10" .u64 Lib.pow10Tab
theorem tabG : ∃ g, Program.globalNamed Tryz.prog "internal/strconv.uint64pow10" = some g := ⟨1, by kernel_rfl⟩
theorem Tab.below {w w' : World} (h : Tab w) (hb : Below w.heap.size w w') : Tab w' := by
  obtain ⟨g, hg⟩ := tabG
  exact Joins.tab_stays hg h hb (Nat.le_refl _)
theorem impl_FormatInt_any (n : Int) (hw : (Lit.int .i64 n).wf = true) (w : World) (ht : Tab w) : Calls Tryz.prog 149 #[.int .i64 n] w (Gives w (.string ⟨(itoa n).toArray⟩)) := by
  have hb := wf_bounds hw
  have hcall := Any.strconv_Itoa Tryz.laysM171 n hb.1 hb.2 w ht
  change Calls Tryz.prog 161 _ _ _ at hcall
  have Hcall := Lib.hid hcall
  clear hcall hw hb
  generalize (⟨(itoa n).toArray⟩ : ByteArray) = s at *
  go_enter Tryz.func149, Tryz.ntmps149
  go_wp2_with fail
  refine Hcall.out.mono ?_
  rintro e w1 ⟨rfl, k, os, rfl⟩
  have hb := Lib.below_grow w.heap.size w (Nat.le_refl _) k os
  go_wp2_with fail
  go_ret
  exact ⟨rfl, hb⟩
end Go.Proofs.YtkjglfafphffiaaGreatDoor
namespace Go.Proofs.YtkjglfafphffiaaGreatDoor
set_option maxRecDepth 100000
def intsOf (l : List Nat) : List Int := l.map fun i : Nat => (i : Int)
theorem intsOf_length (l : List Nat) : (intsOf l).length = l.length := by simp [intsOf]
abbrev Bst := List Bool × List Nat
theorem dg {c : List (List Int)} (hC : IsC c) {i : Nat} (hi : i < c.length) : ent c i i = 2 := by
  have := hC.2.2.2 i hi i hi
  unfold EntOk at this
  rwa [if_pos rfl] at this
end Go.Proofs.YtkjglfafphffiaaGreatDoor
namespace Go.Proofs.YtkjglfafphffiaaGreatDoor
set_option maxRecDepth 100000
def sumTo : Nat → (Nat → Int) → Int
  | 0, _ => 0
  | k + 1, g => sumTo k g + g k
def sgn (j : Nat) : Int := if j % 2 = 0 then 1 else -1
def cutAt (row : List Int) (j : Nat) : List Int := row.take j ++ row.drop (j + 1)
def minorOf (m : List (List Int)) (j : Nat) : List (List Int) := (m.drop 1).map fun row => cutAt row j
def det : Nat → List (List Int) → Int
  | 0, _ => 1
  | n + 1, m => sumTo (n + 1) fun j => sgn j * ent m 0 j * det n (minorOf m j)
def Sq (n : Nat) (m : List (List Int)) : Prop := m.length = n ∧ (∀ i, i < n → (m.getD i []).length = n) ∧ ∀ i j, -3 ≤ ent m i j ∧ ent m i j ≤ 3
def detB : Nat → Int
  | 0 => 1
  | n + 1 => (n + 1) * (3 * detB n)
theorem sumTo_bound (g : Nat → Int) (b : Int) (k : Nat) (h : ∀ j, j < k → -b ≤ g j ∧ g j ≤ b) : -(k * b) ≤ sumTo k g ∧ sumTo k g ≤ k * b := by
  induction k with
  | zero => simp [sumTo]
  | succ k ih =>
    have h1 := ih (fun j hj => h j (by omega))
    have h2 := h k (by omega)
    simp only [sumTo]
    have e : ((k + 1 : Nat) : Int) * b = k * b + b := by rw [Int.natCast_add, Int.add_mul]; simp
    rw [e]; omega
theorem cutAt_length {row : List Int} {j : Nat} (hj : j < row.length) : (cutAt row j).length = row.length - 1 := by
  simp [cutAt]; omega
theorem cutAt_getD (row : List Int) (j k : Nat) : (cutAt row j).getD k 0 = if k < j ∧ k < row.length then row.getD k 0 else row.getD (j + 1 + (k - min j row.length)) 0 := by
  unfold cutAt
  by_cases h : k < j ∧ k < row.length
  · rw [if_pos h]
    simp only [List.getD]
    rw [List.getElem?_append_left (by simp; omega), List.getElem?_take, if_pos h.1]
  · rw [if_neg h]
    simp only [List.getD]
    rw [List.getElem?_append_right (by simp; omega), List.getElem?_drop]
    simp only [List.length_take]
theorem minorOf_sq {n : Nat} {m : List (List Int)} {j : Nat} (h : Sq (n + 1) m) (hj : j < n + 1) : Sq n (minorOf m j) := by
  obtain ⟨h1, h2, h3⟩ := h
  have hg : ∀ i, (minorOf m j).getD i [] = cutAt (m.getD (i + 1) []) j := by
    intro i
    unfold minorOf
    simp only [List.getD, List.getElem?_map, List.getElem?_drop]
    rw [Nat.add_comm 1 i]
    cases m[i + 1]? with
    | none => simp [cutAt]
    | some r => simp
  refine ⟨by simp [minorOf, h1], fun i hi => ?_, fun i k => ?_⟩
  · rw [hg, cutAt_length (by rw [h2 _ (by omega)]; exact hj), h2 _ (by omega)]; omega
  · unfold ent
    rw [hg, cutAt_getD]
    split
    · exact h3 _ _
    · exact h3 _ _
theorem det_bound : ∀ (n : Nat) (m : List (List Int)), Sq n m → -(detB n) ≤ det n m ∧ det n m ≤ detB n := by
  intro n
  induction n with
  | zero => intro m _; simp [det, detB]
  | succ n ih =>
    intro m hm
    have hterm : ∀ j, j < n + 1 → -(3 * detB n) ≤ sgn j * ent m 0 j * det n (minorOf m j) ∧ sgn j * ent m 0 j * det n (minorOf m j) ≤ 3 * detB n := by
      intro j hj
      have h1 := ih _ (minorOf_sq hm hj)
      have h2 := hm.2.2 0 j
      generalize det n (minorOf m j) = d at *
      generalize ent m 0 j = x at *
      generalize detB n = D at *
      have hx : x = -3 ∨ x = -2 ∨ x = -1 ∨ x = 0 ∨ x = 1 ∨ x = 2 ∨ x = 3 := by omega
      unfold sgn
      split <;> rcases hx with rfl | rfl | rfl | rfl | rfl | rfl | rfl <;> omega
    have := sumTo_bound _ _ (n + 1) hterm
    simpa [det, detB] using this
end Go.Proofs.YtkjglfafphffiaaGreatDoor
namespace Go.Proofs.YtkjglfafphffiaaGreatDoor
set_option maxRecDepth 100000
open Go.RowKit
def setNat (m t : Nat) : List Nat := (List.range t).filter fun i => decide (m / 2 ^ i % 2 = 1)
def setTo (m t : Nat) : List Int := (setNat m t).map fun i : Nat => (i : Int)
def setL (m : Nat) : List Int := setTo m 4
theorem setNat_succ (m t : Nat) : setNat m (t + 1) = if m / 2 ^ t % 2 = 1 then setNat m t ++ [t] else setNat m t := by
  unfold setNat
  rw [List.range_succ, List.filter_append]
  split
  · rename_i h; simp [h]
  · rename_i h; simp [h]
theorem setTo_one {m t : Nat} (h : m / 2 ^ t % 2 = 1) : setTo m (t + 1) = setTo m t ++ [(t : Int)] := by
  unfold setTo; rw [setNat_succ, if_pos h]; simp
theorem setTo_zero {m t : Nat} (h : ¬ m / 2 ^ t % 2 = 1) : setTo m (t + 1) = setTo m t := by
  unfold setTo; rw [setNat_succ, if_neg h]
theorem setTo_len (m t : Nat) : (setTo m t).length ≤ t := by
  unfold setTo setNat
  rw [List.length_map]
  exact Nat.le_trans (List.length_filter_le _ _) (by simp)
theorem setTo_stop {m t : Nat} (h : m / 2 ^ t = 0) : ∀ k, setTo m (t + k) = setTo m t := by
  intro k
  induction k with
  | zero => rfl
  | succ k ih =>
    rw [← Nat.add_assoc, setTo_zero, ih]
    have : m / 2 ^ (t + k) = 0 := by
      rw [Nat.pow_add, ← Nat.div_div_eq_div_mul, h]; simp
    rw [this]; decide
theorem and1 {q : Nat} (hq : q ≤ 32) : bits BinOp.and IntKind.i64 (q : Int) 1 = ((q % 2 : Nat) : Int) := by
  rw [and_one _ (by omega)]
theorem and1_at (m t : Nat) (hm : m ≤ 15) : bits BinOp.and IntKind.i64 ((m : Int) / 2 ^ t) 1 = ((m / 2 ^ t % 2 : Nat) : Int) := by
  have e : ((m : Int) / 2 ^ t) = ((m / 2 ^ t : Nat) : Int) := by simp
  have h : m / 2 ^ t ≤ m := Nat.div_le_self _ _
  rw [e, and1 (by omega)]
set_option maxHeartbeats 1000000 in
theorem impl_setOf_any (m : Nat) (w : World) (hm : m ≤ 15) : Calls Tryz.prog 96 #[.int .i64 m] w (GotInts w (setL m)) := by
  go_enter Tryz.func96, Tryz.ntmps96
  go_wp2
  go_loopw [3, 4] (fun s i wr => ∃ t g' c' n' : Nat, t ≤ 4 ∧ i = .int .i64 t ∧ s = (Value.slice (some ⟨g', 0, none⟩) n' c') ∧ Hid ((setTo m t).length = n') ∧ Own wr w.heap.size g' c' (setTo m t) ∧ Below w.heap.size w wr) (fun _ i _ => 4 - (intOf i).toNat)
  case atStart => exact ⟨0, w.heap.size, 0, 0, by omega, rfl, rfl, rfl, Own.empty (w := w) (Nat.le_refl _), (Below.refl _ _).alloc (Nat.le_refl _) _⟩
  case round =>
    obtain ⟨t, g', c', n', ht, rfl, rfl, hn, ho, hb⟩ := hrel
    have hand := and1_at m t hm
    have hle := setTo_len m t
    rw [hn.out] at hle
    have eI : ((m : Int) / 2 ^ t) = ((m / 2 ^ t : Nat) : Int) := by simp
    by_cases hpos : 0 < m / 2 ^ t
    · have ht4 : t < 4 := by
        rcases Nat.lt_or_ge t 4 with h | h
        · exact h
        · obtain rfl : t = 4 := by omega
          have : m / 2 ^ 4 = 0 := by omega
          omega
      have Ht4 := Lib.hid ht4
      have hposI : (0 : Int) < (m : Int) / 2 ^ t := by rw [eI]; omega
      by_cases hbit : m / 2 ^ t % 2 = 1
      · rw [hbit] at hand
        have hS := setTo_one hbit
        have HS := Lib.hid hS
        clear hS eI hpos hbit
        go_wp2_with (at_builtin; refine wpList_append_int_n rfl _ _ rfl w.heap.size g' c' n' (setTo m t) (t : Int) hn.out ho rfl rfl (by omega) ?_)
        intro g2 c2 w2 ho2 hg2 _
        go_wp2
        go_roundw
        case rel =>
          rw [← HS.out] at ho2
          exact ⟨t + 1, g2, c2, n' + 1, by omega, by go_num, rfl, by show _ = _; rw [HS.out, List.length_append, hn.out]; rfl, ho2, hb.grown hg2 hb.size (by intro j hj; cases hj; exact ho.base)⟩
        case measure => simp [intOf]; omega
      · have hb0 : m / 2 ^ t % 2 = 0 := by omega
        rw [hb0] at hand
        have hS := setTo_zero hbit
        have HS := Lib.hid hS
        clear hS eI hpos hbit hb0
        go_wp2
        go_roundw
        case rel => exact ⟨t + 1, g', c', n', by have := Ht4.out; omega, by go_num, rfl, by show _ = _; rw [HS.out]; exact hn.out, by rw [HS.out]; exact ho, hb⟩
        case measure => have := Ht4.out; simp [intOf]; omega
    · have hz : m / 2 ^ t = 0 := Nat.eq_zero_of_not_pos hpos
      have hzI : (m : Int) / 2 ^ t = 0 := by rw [eI, hz]; rfl
      have hS : setL m = setTo m t := by
        have := setTo_stop hz (4 - t)
        have h4 : t + (4 - t) = 4 := by omega
        rw [h4] at this
        exact this
      have HS := Lib.hid hS
      clear hS eI hpos hz hand
      go_wp2
      go_ret
      have hSS := HS.out
      rw [hSS]
      exact GotInts.mk' g' c' hn.out ho hb
def pickRow (c : List (List Int)) (i : Int) (s : List Int) : List Int := s.map fun j => ent c i.toNat j.toNat
def pickL (c : List (List Int)) (s : List Int) : List (List Int) := s.map fun i => pickRow c i s
theorem contents_push (rs : List RowRef) (r : RowRef) : contents (rs ++ [r]) = contents rs ++ [r.2.2] := by simp [contents]
theorem take_map_succ {α : Type} (f : Int → α) (s : List Int) (t : Nat) (ht : t < s.length) : (s.take (t + 1)).map f = (s.take t).map f ++ [f (s.getD t 0)] := by
  rw [List.take_succ_eq_append_getElem ht, List.map_append]; simp [List.getD, ht]
set_option maxHeartbeats 2000000 in
theorem impl_picked_any (gc oc n cc g o m cs : Nat) (c : List (List Int)) (s : List Int) (w : World) (hn : c.length = n) (hm : s.length = m) (hs4 : s.length ≤ 4) (hrl : ∀ j, j < c.length → (c.getD j []).length = c.length)
    (hs : ∀ t, t < s.length → 0 ≤ s.getD t 0 ∧ s.getD t 0 < c.length) (hgc : gc < w.heap.size) (hg : g < w.heap.size) (hr : Rows2 w gc oc c) (hc : Cells w g o s) :
    Calls Tryz.prog 109 #[(Value.slice (some ⟨gc, oc, none⟩) n cc), (Value.slice (some ⟨g, o, none⟩) m cs)] w (GotRows w (pickL c s)) := by
  subst hn; subst hm
  go_enter Tryz.func109, Tryz.ntmps109
  go_wp2
  go_loopw [5, 14] (fun x i wr => ∃ (t g' c' : Nat) (rs : List RowRef), t ≤ s.length ∧ i = .int .i64 t ∧ x = (Value.slice (some ⟨g', 0, none⟩) t c') ∧ Hid (rs.length = t) ∧ Hid (contents rs = (s.take t).map fun i => pickRow c i s) ∧ OwnRows wr w.heap.size g' c' rs ∧ Below w.heap.size w wr) (fun _ i _ => s.length - (intOf i).toNat)
  case atStart => exact ⟨0, w.heap.size, 0, [], Nat.zero_le _, rfl, rfl, rfl, rfl, OwnRows.empty (Nat.le_refl _), (Below.refl _ _).alloc (Nat.le_refl _) _⟩
  case round =>
    obtain ⟨t, g', c', rs, ht, rfl, rfl, hrs, hcont, ho, hb⟩ := hrel
    by_cases hlt : t < s.length
    · have p1 := hc.below hb hg t hlt
      have hst := hs t hlt
      have htk := take_map_succ (fun i => pickRow c i s) s t hlt
      obtain ⟨iN, hiN⟩ : ∃ iN : Nat, s.getD t 0 = iN := ⟨(s.getD t 0).toNat, by omega⟩
      rw [hiN] at p1 hst htk
      have hic : iN < c.length := by omega
      have Htk := Lib.hid htk; clear htk hst hiN
      obtain ⟨wo, rfl⟩ : ∃ wo : World, wo = wr := ⟨_, rfl⟩
      go_wp2
      go_loopw [8, 21] (fun x i wr => ∃ k gr cr : Nat, k ≤ s.length ∧ i = .int .i64 k ∧ x = (Value.slice (some ⟨gr, 0, none⟩) k cr) ∧ Own wr wo.heap.size gr cr (pickRow c iN (s.take k)) ∧ Below wo.heap.size wo wr) (fun _ i _ => s.length - (intOf i).toNat)
      case atStart => exact ⟨0, wo.heap.size, 0, Nat.zero_le _, rfl, rfl, Own.empty (Nat.le_refl _), (Below.refl _ _).alloc (Nat.le_refl _) _⟩
      case round =>
        obtain ⟨k, gr, cr, hk, rfl, rfl, hor, hb2⟩ := hrel
        have hbb : Below w.heap.size w wr := hb.trans (hb2.mono hb.size)
        by_cases hltk : k < s.length
        · have p2 := hc.below hbb hg k hltk
          have hsk := hs k hltk
          have htk2 := take_map_succ (fun j => ent c iN j.toNat) s k hltk
          obtain ⟨jN, hjN⟩ : ∃ jN : Nat, s.getD k 0 = jN := ⟨(s.getD k 0).toNat, by omega⟩
          rw [hjN] at p2 hsk htk2
          rw [Int.toNat_natCast] at htk2
          have hjc : jN < c.length := by omega
          have Htk2 := Lib.hid htk2; clear htk2 hsk hjN p1
          obtain ⟨ga, oa, ca, q1, q2, q3, q4⟩ := hr.below hbb hgc iN hic
          have hri := hrl iN hic
          have e2 := q4 jN (by rw [hri]; exact hjc)
          rw [hri] at q1
          have hee : (c.getD iN []).getD jN 0 = ent c iN jN := rfl
          rw [hee] at e2
          have hpl : (pickRow c iN (s.take k)).length = k := by simp [pickRow]; omega
          have Hpl := Lib.hid hpl; clear hpl hri hee
          generalize ent c iN jN = y at *
          go_wp2_with (at_builtin; refine wpList_append_int_n rfl _ _ rfl wo.heap.size gr cr k (pickRow c iN (s.take k)) y Hpl.out hor rfl rfl (by omega) ?_)
          intro g3 c3 w3 ho3 hg3 _
          go_wp2
          go_roundw
          case rel =>
            refine ⟨k + 1, g3, c3, by omega, by go_num, rfl, ?_, hb2.grown hg3 hb2.size (by intro j hj; cases hj; exact hor.base)⟩
            have := Htk2.out
            have e : pickRow c iN (s.take (k + 1)) = pickRow c iN (s.take k) ++ [y] := this
            rw [e]; exact ho3
          case measure => simp [intOf]; omega
        · obtain rfl : k = s.length := by omega
          rw [List.take_of_length_le (Nat.le_refl _)] at hor
          have hpl : (pickRow c iN s).length = s.length := by simp [pickRow]
          have ho2 := ho.below (hb2.mono (Nat.le_refl _))
          have hne : ∀ r ∈ rs, r.1 ≠ gr := fun r hr => by have h1 := (ho.2.1 r hr).lt; have h2 := hor.base; omega
          have hor2 := hor.mono hb.size
          have hrow : rowVal (gr, cr, pickRow c iN s) = (Value.slice (some ⟨gr, 0, none⟩) s.length cr) := by unfold rowVal; rw [hpl]
          clear p1 hpl
          go_wp2_with (at_builtin; refine wpList_append_row rfl _ _ rfl w.heap.size g' c' t wr.heap.size rs (gr, cr, pickRow c iN s) _ hrs.out (by rw [hrow]) rfl ho2 hor2 hne rfl rfl (by omega) ?_)
          intro g4 c4 w4 ho4 hg4 _
          go_wp2
          go_roundw
          case rel =>
            refine ⟨t + 1, g4, c4, rs ++ [(gr, cr, pickRow c iN s)], by omega, by go_num, rfl, by show _ = _; rw [List.length_append, hrs.out]; rfl, ?_, ho4, hbb.grown hg4 hbb.size (by intro j hj; cases hj; exact ho.base)⟩
            show _ = _
            rw [contents_push, hcont.out, Htk.out]
          case measure => simp [intOf]; omega
    · obtain rfl : t = s.length := by omega
      have hc2 := hcont.out
      rw [List.take_of_length_le (Nat.le_refl _)] at hc2
      have Hc2 := Lib.hid hc2
      clear hc2
      go_wp2
      go_ret
      refine ⟨g', c', rs, ?_, Hc2.out, ho, hb⟩
      simp [pickL]
end Go.Proofs.YtkjglfafphffiaaGreatDoor
namespace Go.Proofs.YtkjglfafphffiaaGreatDoor
set_option maxRecDepth 100000
abbrev Bs := List UInt8
def types17 : List (Bs × List (List Int)) := [
  ([65, 49], [[2]]),
  ([65, 50], [[2, -1], [-1, 2]]),
  ([65, 51], [[2, -1, 0], [-1, 2, -1], [0, -1, 2]]),
  ([65, 52], [[2, -1, 0, 0], [-1, 2, -1, 0], [0, -1, 2, -1], [0, 0, -1, 2]]),
  ([66, 50], [[2, -1], [-2, 2]]),
  ([66, 51], [[2, -1, 0], [-1, 2, -1], [0, -2, 2]]),
  ([66, 52], [[2, -1, 0, 0], [-1, 2, -1, 0], [0, -1, 2, -1], [0, 0, -2, 2]]),
  ([67, 51], [[2, -1, 0], [-1, 2, -2], [0, -1, 2]]),
  ([67, 52], [[2, -1, 0, 0], [-1, 2, -1, 0], [0, -1, 2, -2], [0, 0, -1, 2]]),
  ([68, 52], [[2, -1, 0, 0], [-1, 2, -1, -1], [0, -1, 2, 0], [0, -1, 0, 2]]),
  ([70, 52], [[2, -1, 0, 0], [-1, 2, -1, 0], [0, -2, 2, -1], [0, 0, -1, 2]]),
  ([71, 50], [[2, -1], [-3, 2]]),
  ([65, 49, 126], [[2, -2], [-2, 2]]),
  ([65, 50, 126], [[2, -1, -1], [-1, 2, -1], [-1, -1, 2]]),
  ([65, 51, 126], [[2, -1, 0, -1], [-1, 2, -1, 0], [0, -1, 2, -1], [-1, 0, -1, 2]]),
  ([67, 50, 126], [[2, -1, 0], [-2, 2, -2], [0, -1, 2]]),
  ([71, 50, 126], [[2, -1, 0], [-1, 2, -1], [0, -3, 2]])]
def tyD : Bs × List (List Int) := ([], [])
theorem types_isC : ∀ t ∈ types17, IsC t.2 := by decide
theorem types_isC' {k : Nat} (h : k < 17) : IsC (types17.getD k tyD).2 := types_isC _ (by have hl : types17.length = 17 := rfl; simp [List.getD, hl, h])
end Go.Proofs.YtkjglfafphffiaaGreatDoor
namespace Go.Proofs.YtkjglfafphffiaaGreatDoor
set_option maxRecDepth 100000
open Go.RowKit
def chainA (m : Nat) : List (List Int) := (List.range m).map fun i => (List.range m).map fun j => if i = j then 2 else if i = j + 1 ∨ j = i + 1 then -1 else 0
theorem OwnRows.grownK2 {w w' : World} {B g cap k : Nat} {rs : List RowRef} (h : OwnRows w B g cap rs) (hg : w.grownBy w' (some k)) (h1 : g ≠ k) (h2 : ∀ r ∈ rs, r.1 ≠ k) : OwnRows w' B g cap rs :=
  ⟨h.1.grown hg (by intro e; cases e; exact h1 rfl), fun r hr => (h.2.1 r hr).grown hg (by intro e; cases e; exact h2 r hr rfl), h.2.2⟩
def rowC (n k : Nat) : List Int :=
  let r1 := (List.replicate n (0 : Int)).set k 2
  let r2 := if 0 < k then r1.set (k - 1) (-1) else r1
  if k + 1 < n then r2.set (k + 1) (-1) else r2
theorem rowC_eq {n k : Nat} (hn : n ≤ 4) (hk : k < n) : (chainA n).getD k [] = rowC n k := by
  have : n = 1 ∨ n = 2 ∨ n = 3 ∨ n = 4 := by omega
  rcases this with rfl | rfl | rfl | rfl
  · obtain rfl : k = 0 := by omega
    decide
  · have : k = 0 ∨ k = 1 := by omega
    rcases this with rfl | rfl <;> decide
  · have : k = 0 ∨ k = 1 ∨ k = 2 := by omega
    rcases this with rfl | rfl | rfl <;> decide
  · have : k = 0 ∨ k = 1 ∨ k = 2 ∨ k = 3 := by omega
    rcases this with rfl | rfl | rfl | rfl <;> decide
theorem rowC_length (n k : Nat) : (rowC n k).length = n := by
  unfold rowC
  simp only
  split <;> split <;> simp
theorem chainA_length (n : Nat) : (chainA n).length = n := by simp [chainA]
theorem chainA_take {n k : Nat} (hn : n ≤ 4) (hk : k < n) : (chainA n).take (k + 1) = (chainA n).take k ++ [rowC n k] := by
  rw [List.take_succ_eq_append_getElem (by rw [chainA_length]; exact hk), ← rowC_eq hn hk]
  simp [List.getD, chainA_length, hk]
set_option maxHeartbeats 1000000 in
theorem spec_l2Chain_any (n : Nat) (w : World) (hn : n ≤ 4) : Calls Tryz.prog 174 #[.int .i64 n] w (GotRows w (chainA n)) := by
  go_enter Tryz.func174, Tryz.ntmps174
  go_wp2
  go_loopw [3, 4] (fun ov kv wr => ∃ (k g2 c2 : Nat) (rs : List RowRef), k ≤ n ∧ kv = .int .i64 k ∧ ov = (Value.slice (some ⟨g2, 0, none⟩) k c2) ∧ Hid (rs.length = k) ∧ Hid (contents rs = (chainA n).take k) ∧ OwnRows wr w.heap.size g2 c2 rs ∧ Below w.heap.size w wr) (fun _ kv _ => n - (intOf kv).toNat)
  case atStart => exact ⟨0, w.heap.size, 0, [], Nat.zero_le _, rfl, rfl, rfl, rfl, OwnRows.empty (Nat.le_refl _), (Below.refl _ _).alloc (Nat.le_refl _) _⟩
  case round =>
    obtain ⟨k, g2, c2, rs, hk, rfl, rfl, hrk, hcon, hO, hb⟩ := hrel
    by_cases hlt : k < n
    · have Ht := Lib.hid (chainA_take hn hlt)
      have Hl := Lib.hid (rowC_length n k)
      go_wp2_with (at_make; refine wpList_make_ints rfl _ _ rfl w.heap.size n _ rfl rfl rfl (by omega) hb.size ?_)
      intro w2 ho2 hg2
      have hO2 : OwnRows w2 w.heap.size g2 c2 rs := hO.below ⟨hg2.os, hg2.tape, hg2.output, hg2.size, fun j hj => hg2.block j hj (by intro e; cases e)⟩
      have hB2 : Below w.heap.size w w2 := hb.trans ⟨hg2.os, hg2.tape, hg2.output, hg2.size, fun j hj => hg2.block j (Nat.lt_of_lt_of_le hj hb.size) (by intro e; cases e)⟩
      have hne : ∀ s ∈ rs, s.1 ≠ wr.heap.size := fun s hs e => by have := (hO.2.1 s hs).lt; omega
      have hng : g2 ≠ wr.heap.size := by have := hO.lt; omega
      have hbs := hb.size
      clear hO hb hg2
      generalize wr.heap.size = gr at *
      have x0 := ho2.cell k (by simpa using hlt)
      have y0 := ho2.frozen k
      have s1 := ho2.set k 2
      have e2 : IntKind.i64.wrap ((k : Int) + 1) = (k : Int) + 1 := IntWalk.i64_in _ (by omega)
      have t2 : ((k : Int) + 1).toNat = k + 1 := by omega
      have b2 : (0 : Int) ≤ (k : Int) + 1 := by omega
      have hX : rowC n k = if k + 1 < n then (if 0 < k then ((List.replicate n (0 : Int)).set k 2).set (k - 1) (-1) else (List.replicate n (0 : Int)).set k 2).set (k + 1) (-1) else (if 0 < k then ((List.replicate n (0 : Int)).set k 2).set (k - 1) (-1) else (List.replicate n (0 : Int)).set k 2) := rfl
      have hltI : (k : Int) < (n : Int) := by omega
      by_cases h0 : 0 < k
      · by_cases h1 : k + 1 < n
        · have e1 : IntKind.i64.wrap ((k : Int) - 1) = (k : Int) - 1 := IntWalk.i64_in _ (by omega)
          have t1 : ((k : Int) - 1).toNat = k - 1 := by omega
          have b1 : (0 : Int) ≤ (k : Int) - 1 := by omega
          have b1' : (k : Int) - 1 < (n : Int) := by omega
          have z0 : (0 : Int) < (k : Int) := by omega
          have x1 := s1.1.cell (k - 1) (by simp; omega)
          have y1 := s1.1.frozen (k - 1)
          have s2 := s1.1.set (k - 1) (-1)
          have l0 : (k : Int) + 1 < (n : Int) := by omega
          have x2 := s2.1.cell (k + 1) (by simp; omega)
          have y2 := s2.1.frozen (k + 1)
          have s3 := s2.1.set (k + 1) (-1)
          have hR : rowC n k = (((List.replicate n (0 : Int)).set k 2).set (k - 1) (-1)).set (k + 1) (-1) := by rw [hX, if_pos h1, if_pos h0]
          have HR := Lib.hid hR
          have hown := s3.1
          have hgr := World.grownBy.trans' (World.grownBy.trans' s1.2 s2.2) s3.2
          rw [← hR] at hown
          have Hown := Lib.hid hown; have Hgr := Lib.hid hgr
          clear hown hgr s1 s2 s3 hR hX ho2
          have hO3 : OwnRows _ w.heap.size g2 c2 rs := hO2.grownK2 Hgr.out hng hne
          have hB3 := hB2.grown Hgr.out hB2.size (by intro j hj; cases hj; exact hbs)
          clear hO2 hB2
          go_wp2_with (at_builtin; refine wpList_append_row (w := (((w2.setCell ⟨gr, k, none⟩ (.int .i64 2)).setCell ⟨gr, k - 1, none⟩ (.int .i64 (-1))).setCell ⟨gr, k + 1, none⟩ (.int .i64 (-1)))) rfl _ _ rfl w.heap.size g2 c2 k w2.heap.size rs (gr, n, rowC n k) _ hrk.out (by unfold rowVal; rw [Hl.out]) (by simp) hO3 (Hown.out.mono (Nat.le_refl _)) hne rfl rfl (by omega) ?_)
          intro g4 c4 w4 hO4 hg4 hor4
          have hB4 : Below w.heap.size w w4 := hB3.grown hg4 hB3.size (by intro t ht; cases ht; exact hO3.base)
          have hl4 : Hid ((rs ++ [(gr, n, rowC n k)]).length = k + 1) := Lib.hid (by rw [List.length_append, hrk.out]; rfl)
          have hc4 : Hid (contents (rs ++ [(gr, n, rowC n k)]) = (chainA n).take (k + 1)) := Lib.hid (by rw [Ht.out, ← hcon.out]; simp [contents])
          clear hO3 hB3 hg4 hor4
          go_wp2_with fail
          go_roundw
          case rel => exact ⟨k + 1, g4, c4, _, by omega, by go_num, rfl, hl4.out, hc4.out, hO4, hB4⟩
          case measure => simp [intOf]; omega
        · have e1 : IntKind.i64.wrap ((k : Int) - 1) = (k : Int) - 1 := IntWalk.i64_in _ (by omega)
          have t1 : ((k : Int) - 1).toNat = k - 1 := by omega
          have b1 : (0 : Int) ≤ (k : Int) - 1 := by omega
          have b1' : (k : Int) - 1 < (n : Int) := by omega
          have z0 : (0 : Int) < (k : Int) := by omega
          have x1 := s1.1.cell (k - 1) (by simp; omega)
          have y1 := s1.1.frozen (k - 1)
          have s2 := s1.1.set (k - 1) (-1)
          have l0 : ¬ (k : Int) + 1 < (n : Int) := by omega
          have hR : rowC n k = ((List.replicate n (0 : Int)).set k 2).set (k - 1) (-1) := by rw [hX, if_neg h1, if_pos h0]
          have HR := Lib.hid hR
          have hown := s2.1
          have hgr := World.grownBy.trans' s1.2 s2.2
          rw [← hR] at hown
          have Hown := Lib.hid hown; have Hgr := Lib.hid hgr
          clear hown hgr s1 s2 hR hX ho2
          have hO3 : OwnRows _ w.heap.size g2 c2 rs := hO2.grownK2 Hgr.out hng hne
          have hB3 := hB2.grown Hgr.out hB2.size (by intro j hj; cases hj; exact hbs)
          clear hO2 hB2
          go_wp2_with (at_builtin; refine wpList_append_row (w := ((w2.setCell ⟨gr, k, none⟩ (.int .i64 2)).setCell ⟨gr, k - 1, none⟩ (.int .i64 (-1)))) rfl _ _ rfl w.heap.size g2 c2 k w2.heap.size rs (gr, n, rowC n k) _ hrk.out (by unfold rowVal; rw [Hl.out]) (by simp) hO3 (Hown.out.mono (Nat.le_refl _)) hne rfl rfl (by omega) ?_)
          intro g4 c4 w4 hO4 hg4 hor4
          have hB4 : Below w.heap.size w w4 := hB3.grown hg4 hB3.size (by intro t ht; cases ht; exact hO3.base)
          have hl4 : Hid ((rs ++ [(gr, n, rowC n k)]).length = k + 1) := Lib.hid (by rw [List.length_append, hrk.out]; rfl)
          have hc4 : Hid (contents (rs ++ [(gr, n, rowC n k)]) = (chainA n).take (k + 1)) := Lib.hid (by rw [Ht.out, ← hcon.out]; simp [contents])
          clear hO3 hB3 hg4 hor4
          go_wp2_with fail
          go_roundw
          case rel => exact ⟨k + 1, g4, c4, _, by omega, by go_num, rfl, hl4.out, hc4.out, hO4, hB4⟩
          case measure => simp [intOf]; omega
      · by_cases h1 : k + 1 < n
        · have z0 : ¬ (0 : Int) < (k : Int) := by omega
          have l0 : (k : Int) + 1 < (n : Int) := by omega
          have x2 := s1.1.cell (k + 1) (by simp; omega)
          have y2 := s1.1.frozen (k + 1)
          have s3 := s1.1.set (k + 1) (-1)
          have hR : rowC n k = ((List.replicate n (0 : Int)).set k 2).set (k + 1) (-1) := by rw [hX, if_pos h1, if_neg h0]
          have HR := Lib.hid hR
          have hown := s3.1
          have hgr := World.grownBy.trans' s1.2 s3.2
          rw [← hR] at hown
          have Hown := Lib.hid hown; have Hgr := Lib.hid hgr
          clear hown hgr s1 s3 hR hX ho2
          have hO3 : OwnRows _ w.heap.size g2 c2 rs := hO2.grownK2 Hgr.out hng hne
          have hB3 := hB2.grown Hgr.out hB2.size (by intro j hj; cases hj; exact hbs)
          clear hO2 hB2
          go_wp2_with (at_builtin; refine wpList_append_row (w := ((w2.setCell ⟨gr, k, none⟩ (.int .i64 2)).setCell ⟨gr, k + 1, none⟩ (.int .i64 (-1)))) rfl _ _ rfl w.heap.size g2 c2 k w2.heap.size rs (gr, n, rowC n k) _ hrk.out (by unfold rowVal; rw [Hl.out]) (by simp) hO3 (Hown.out.mono (Nat.le_refl _)) hne rfl rfl (by omega) ?_)
          intro g4 c4 w4 hO4 hg4 hor4
          have hB4 : Below w.heap.size w w4 := hB3.grown hg4 hB3.size (by intro t ht; cases ht; exact hO3.base)
          have hl4 : Hid ((rs ++ [(gr, n, rowC n k)]).length = k + 1) := Lib.hid (by rw [List.length_append, hrk.out]; rfl)
          have hc4 : Hid (contents (rs ++ [(gr, n, rowC n k)]) = (chainA n).take (k + 1)) := Lib.hid (by rw [Ht.out, ← hcon.out]; simp [contents])
          clear hO3 hB3 hg4 hor4
          go_wp2_with fail
          go_roundw
          case rel => exact ⟨k + 1, g4, c4, _, by omega, by go_num, rfl, hl4.out, hc4.out, hO4, hB4⟩
          case measure => simp [intOf]; omega
        · have z0 : ¬ (0 : Int) < (k : Int) := by omega
          have l0 : ¬ (k : Int) + 1 < (n : Int) := by omega
          have hR : rowC n k = (List.replicate n (0 : Int)).set k 2 := by rw [hX, if_neg h1, if_neg h0]
          have HR := Lib.hid hR
          have hown := s1.1
          have hgr := s1.2
          rw [← hR] at hown
          have Hown := Lib.hid hown; have Hgr := Lib.hid hgr
          clear hown hgr s1 hR hX ho2
          have hO3 : OwnRows _ w.heap.size g2 c2 rs := hO2.grownK2 Hgr.out hng hne
          have hB3 := hB2.grown Hgr.out hB2.size (by intro j hj; cases hj; exact hbs)
          clear hO2 hB2
          go_wp2_with (at_builtin; refine wpList_append_row (w := (w2.setCell ⟨gr, k, none⟩ (.int .i64 2))) rfl _ _ rfl w.heap.size g2 c2 k w2.heap.size rs (gr, n, rowC n k) _ hrk.out (by unfold rowVal; rw [Hl.out]) (by simp) hO3 (Hown.out.mono (Nat.le_refl _)) hne rfl rfl (by omega) ?_)
          intro g4 c4 w4 hO4 hg4 hor4
          have hB4 : Below w.heap.size w w4 := hB3.grown hg4 hB3.size (by intro t ht; cases ht; exact hO3.base)
          have hl4 : Hid ((rs ++ [(gr, n, rowC n k)]).length = k + 1) := Lib.hid (by rw [List.length_append, hrk.out]; rfl)
          have hc4 : Hid (contents (rs ++ [(gr, n, rowC n k)]) = (chainA n).take (k + 1)) := Lib.hid (by rw [Ht.out, ← hcon.out]; simp [contents])
          clear hO3 hB3 hg4 hor4
          go_wp2_with fail
          go_roundw
          case rel => exact ⟨k + 1, g4, c4, _, by omega, by go_num, rfl, hl4.out, hc4.out, hO4, hB4⟩
          case measure => simp [intOf]; omega
    · obtain rfl : k = n := by omega
      have hc := hcon.out
      rw [List.take_of_length_le (by rw [chainA_length]; exact Nat.le_refl _)] at hc
      have Hc := Lib.hid hc
      have Hl := Lib.hid (show k = (chainA k).length by rw [chainA_length])
      go_wp2_with fail
      go_ret
      exact ⟨g2, c2, rs, congrArg (fun z => Ending.returned (Value.slice (some ⟨g2, 0, none⟩) z c2)) Hl.out, Hc.out, hO, hb⟩
end Go.Proofs.YtkjglfafphffiaaGreatDoor
