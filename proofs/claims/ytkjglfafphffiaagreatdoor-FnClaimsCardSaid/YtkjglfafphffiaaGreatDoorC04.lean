/- FmtS Strs -/
import Derived.Test.YtkjglfafphffiaaGreatDoorC03
import Derived.Laws.BytesString
import Derived.Test.YtkjglfafphffiaaGreatDoorC02
namespace Go.Proofs.YtkjglfafphffiaaGreatDoor
set_option maxRecDepth 100000
open Go.RowKit
open Go.Lib (join decDigits itoa)
set_option maxRecDepth 100000
theorem convB1 (w : World) (a : Addr) (x : Int) (hc : w.cell? a = some (.int .u8 x)) :
    (convert 22 9 (.slice (some a) 1 1)).run Tryz.prog w = .ok (.string ⟨#[UInt8.ofNat x.toNat]⟩) w := by
  have h := run_convert_bytes_string (P := Tryz.prog) w 22 9 5 (some a) 1 1 Tryz.underlying22 Tryz.underlying5 Tryz.underlying9
  rw [h]
  have hl := run_loadCells_list (P := Tryz.prog) w a [.int .u8 x] (fun j v hj => by
    have hj0 : j = 0 := by have := (List.getElem?_eq_some_iff.1 hj).1; simp at this; exact this
    subst hj0
    simp at hj
    subst hj
    simpa [Addr.add] using hc)
  rw [run_bytesToString w a 1 1 [x] (by simpa using hl)]
  simp [ByteArray.push]
set_option maxHeartbeats 1000000 in
theorem spec_FormatInt_any (n : Int) (w : World) (hw : (Lit.int .i64 n).wf = true) : Calls Tryz.prog 129 #[.int .i64 n] w (Gives w (.string ⟨(itoa n).toArray⟩)) := by
  have hbn := wf_bounds hw
  by_cases h0 : n = 0
  · subst h0
    have e : itoa 0 = [48] := by unfold itoa; rw [if_neg (by omega)]; exact Lib.decDigits_one (by decide)
    rw [e]
    go_enter Tryz.func129, Tryz.ntmps129
    go_wp2
    go_ret
    exact ⟨rfl, Below.refl _ _⟩
  have hN : 0 < n.natAbs := by omega
  have hS : ∀ b, (n < 0 ↔ b = true) → itoa n = if b then 45 :: decDigits n.natAbs else decDigits n.natAbs := by
    intro b hb
    unfold itoa
    by_cases h : n < 0
    · rw [if_pos h, if_pos (hb.1 h)]
    · rw [if_neg h, if_neg (fun e => h (hb.2 e))]
      congr 1
      omega
  generalize hR : itoa n = R at *
  go_enter Tryz.func129, Tryz.ntmps129
  go_wp2
  go_loopw [0, 3] (fun nv ov wr => ∃ (m : Int) (out : List UInt8), nv = .int .i64 m ∧ ov = .string ⟨out.toArray⟩ ∧ digSt n.natAbs m.natAbs out ∧ m.natAbs ≤ n.natAbs ∧ Below w.heap.size w wr) (fun nv _ _ => (intOf nv).natAbs)
  case atStart => exact ⟨n, [], rfl, rfl, digSt_start hN, Nat.le_refl _, Below.refl _ _⟩
  case round =>
    obtain ⟨m, out, rfl, rfl, hst, hm, hb⟩ := hrel
    by_cases hz : m = 0
    · subst hz
      have hout := digSt_end hst
      subst hout
      have hl := digSt_len (N := n.natAbs) (by omega) hst
      clear hst
      by_cases hneg : n < 0
      · have hR2 : R = 45 :: decDigits n.natAbs := hS true (by simp [hneg])
        subst hR2
        have hadd := run_string_add_sum (P := Tryz.prog) wr ⟨#[45]⟩ ⟨(decDigits n.natAbs).toArray⟩ (by simp [ByteArray.size]; omega)
        have ee : (⟨#[45]⟩ : ByteArray) ++ ⟨(decDigits n.natAbs).toArray⟩ = ⟨(45 :: decDigits n.natAbs).toArray⟩ := ByteArray.mk_append_mk [45] _
        rw [ee] at hadd
        clear hS hl
        go_wp2
        go_ret
        exact ⟨rfl, hb⟩
      · have hR2 : R = decDigits n.natAbs := hS false (by simp [hneg])
        subst hR2
        clear hS hl
        go_wp2
        go_ret
        exact ⟨rfl, hb⟩
    · have hl := digSt_len (N := n.natAbs) (by omega) hst
      have hst' := digSt_step hst (by omega)
      obtain ⟨k, hk⟩ : ∃ k : Nat, k = m.natAbs % 10 := ⟨_, rfl⟩
      have hk10 : k < 10 := by omega
      rw [← hk] at hst'
      have htd : (m.tdiv 10).natAbs = m.natAbs / 10 := Int.natAbs_tdiv m 10
      have htm : (m.tmod 10).natAbs = k := by rw [Int.natAbs_tmod]; exact hk.symm
      rw [← htd] at hst'
      have hbyte : UInt8.ofNat (48 + (k : Int)).toNat = UInt8.ofNat (48 + k) := by congr 1
      have hcv := convB1 (wr.alloc (.cells #[.int .u8 (48 + (k : Int))] 5)) ⟨wr.heap.size, 0, none⟩ (48 + k) (World.cell?_alloc_at _ _ _ _ rfl)
      rw [hbyte] at hcv
      clear hbyte
      have hadd := run_string_add_sum (P := Tryz.prog) (wr.alloc (.cells #[.int .u8 (48 + (k : Int))] 5)) ⟨#[UInt8.ofNat (48 + k)]⟩ ⟨out.toArray⟩ (by simp [ByteArray.size]; omega)
      have ee : (⟨#[UInt8.ofNat (48 + k)]⟩ : ByteArray) ++ ⟨out.toArray⟩ = ⟨(UInt8.ofNat (48 + k) :: out).toArray⟩ := ByteArray.mk_append_mk [UInt8.ofNat (48 + k)] _
      rw [ee] at hadd
      have e2 : wrap64 (48 + (k : Int)) = 48 + k := IntWalk.wrap64_in _ ⟨by omega, by omega⟩
      have e3 : (48 + (k : Int)) % 256 = 48 + k := by omega
      have e4 : wrap64 (m.tdiv 10) = m.tdiv 10 := IntWalk.wrap64_in _ ⟨by omega, by omega⟩
      have E4 := Lib.hid e4
      clear e4
      have hb' : Below w.heap.size w (wr.alloc (.cells #[.int .u8 (48 + (k : Int))] 5)) := hb.alloc hb.size _
      generalize UInt8.ofNat (48 + k) = bt at *
      have Hst := Lib.hid hst'; have Hm := Lib.hid (show (m.tdiv 10).natAbs ≤ n.natAbs ∧ (m.tdiv 10).natAbs < m.natAbs by omega)
      clear hS hl hst' hst ee hm
      by_cases hd : m.tmod 10 < 0
      · have ht : m.tmod 10 = -(k : Int) := by omega
        have e1 : wrap64 (-(-(k : Int))) = k := by rw [Int.neg_neg]; exact IntWalk.wrap64_in _ ⟨by omega, by omega⟩
        rw [ht] at hd
        clear htd htm hk
        go_wp2
        go_roundw
        case rel => exact ⟨m.tdiv 10, _, by rw [E4.out], rfl, Hst.out, Hm.out.1, hb'⟩
        case measure => rw [E4.out]; exact Hm.out.2
      · have ht : m.tmod 10 = (k : Int) := by omega
        rw [ht] at hd
        clear htd htm hk
        go_wp2
        go_roundw
        case rel => exact ⟨m.tdiv 10, _, by rw [E4.out], rfl, Hst.out, Hm.out.1, hb'⟩
        case measure => rw [E4.out]; exact Hm.out.2
theorem addS (W : World) (x y z : List UInt8) (hz : x ++ y = z) (h : z.length ≤ 9223372036854775807) : (Op.stringOp .add ⟨x.toArray⟩ ⟨y.toArray⟩).run Tryz.prog W = .ok (.string ⟨z.toArray⟩) W := by
  subst hz
  rw [List.length_append] at h
  rw [run_string_add_sum W _ _ (by simp [ByteArray.size]; omega), ByteArray.mk_append_mk]
set_option maxHeartbeats 1000000 in
theorem spec_FormatWeight_any (g o n cp : Nat) (l : List Int) (w : World) (hn : l.length = n) (hl : l.length ≤ 1099511627776) (h64 : I64s l) (hg : g < w.heap.size) (hc : Cells w g o l) :
    Calls Tryz.prog 74 #[(Value.slice (some ⟨g, o, none⟩) n cp)] w (Gives w (.string ⟨(weightL l).toArray⟩)) := by
  subst hn
  have Hlen : Hid (∀ k, (weightL (l.take k)).length ≤ 9223372036854775807) := Lib.hid fun k => by
    have h1 := weightL_len (h64.take k)
    rw [List.length_take] at h1
    omega
  have H64 := Lib.hid h64
  clear h64
  go_enter Tryz.func74, Tryz.ntmps74
  go_wp2
  go_loopw [3, 4] (fun sv iv wr => ∃ k : Nat, k ≤ l.length ∧ iv = .int .i64 k ∧ sv = .string ⟨(weightL (l.take k)).toArray⟩ ∧ Below w.heap.size w wr) (fun _ iv _ => l.length - (intOf iv).toNat)
  case atStart => exact ⟨0, Nat.zero_le _, rfl, by rw [weightL_zero], Below.refl _ _⟩
  case round =>
    obtain ⟨k, hk, rfl, rfl, hb⟩ := hrel
    by_cases hlt : k < l.length
    · have q1 := (hb.cell (p := ⟨g, o + k, none⟩) hg).trans (hc k hlt)
      have hcall := spec_FormatInt_any (l.getD k 0) wr (H64.out.at hlt)
      by_cases h0 : 0 < k
      · have e1 := addS wr (weightL (l.take k)) [44] _ rfl (by have h1 := weightL_next hlt h0; have h2 := Hlen.out (k + 1); rw [h1] at h2; simp only [List.length_append] at h2 ⊢; omega)
        have E2 : Hid (∀ W, (Op.stringOp .add ⟨(weightL (l.take k) ++ [44]).toArray⟩ ⟨(itoa (l.getD k 0)).toArray⟩).run Tryz.prog W = .ok (.string ⟨(weightL (l.take (k + 1))).toArray⟩) W) := Lib.hid fun W => addS W _ _ _ (weightL_next hlt h0).symm (Hlen.out _)
        have Hcall := Lib.hid hcall
        generalize hS2 : weightL (l.take (k + 1)) = S2 at E2
        have HS := Lib.hid hS2
        clear hS2
        generalize weightL (l.take k) = S1 at e1 E2
        generalize itoa (l.getD k 0) = S3 at Hcall E2
        generalize l.getD k 0 = x at Hcall q1
        clear hcall
        go_wp2_with fail
        refine Hcall.out.mono ?_
        rintro e w1 ⟨rfl, hb1⟩
        have hB := hb.trans (hb1.mono hb.size)
        have e2 := E2.out w1
        go_wp2_with fail
        go_roundw
        case rel => exact ⟨k + 1, by omega, by go_num, by rw [HS.out], hB⟩
        case measure => simp [intOf]; omega
      · obtain rfl : k = 0 := by omega
        have Hcall := Lib.hid hcall
        have HS := Lib.hid (weightL_first hlt)
        have Hl := Lib.hid (show (itoa (l.getD 0 0)).length ≤ 9223372036854775807 from by rw [← HS.out]; exact Hlen.out 1)
        rw [weightL_zero] at *
        generalize itoa (l.getD 0 0) = S3 at *
        generalize l.getD 0 0 = x at *
        rw [Nat.add_zero] at q1
        clear hcall
        go_wp2_with fail
        refine Hcall.out.mono ?_
        rintro e w1 ⟨rfl, hb1⟩
        have hB := hb.trans (hb1.mono hb.size)
        have e2 := addS w1 [] S3 S3 rfl Hl.out
        go_wp2_with fail
        go_roundw
        case rel => exact ⟨1, by omega, rfl, by rw [HS.out], hB⟩
        case measure => simp [intOf]; omega
    · obtain rfl : k = l.length := by omega
      rw [List.take_length] at *
      go_wp2
      go_ret
      exact ⟨rfl, hb⟩
theorem rows_i64 {l : List (List Int)} (h : ∀ r ∈ l, I64s r) {k : Nat} (hk : k < l.length) : I64s (l.getD k []) := by
  apply h
  simp [List.getD, hk]
theorem cellsOf_take_le (l : List (List Int)) (k : Nat) : cellsOf (l.take k) ≤ cellsOf l := by
  unfold cellsOf
  have h : (l.map List.length).sum = ((l.take k).map List.length).sum + ((l.drop k).map List.length).sum := by
    rw [← List.sum_append, ← List.map_append, List.take_append_drop]
  omega
theorem rowsL_take_len {l : List (List Int)} {sep : List UInt8} (h : ∀ r ∈ l, I64s r) (hs : sep.length ≤ 1) (hl : l.length ≤ 1099511627776) (hcl : cellsOf l ≤ 1099511627776) (k : Nat) : (rowsL sep (l.take k)).length ≤ 9223372036854775807 := by
  have h1 := rowsL_len (l := l.take k) (sep := sep) (fun r hr => h r (List.mem_of_mem_take hr))
  have h2 := cellsOf_take_le l k
  have h3 : (l.take k).length ≤ l.length := by rw [List.length_take]; omega
  have h4 : sep.length * (l.take k).length ≤ 1 * (l.take k).length := Nat.mul_le_mul_right _ hs
  omega
set_option maxHeartbeats 1000000 in
theorem spec_FormatRoots_any (g o n cp : Nat) (l : List (List Int)) (w : World) (hn : l.length = n) (hl : l.length ≤ 1099511627776) (hcl : cellsOf l ≤ 1099511627776) (h64 : ∀ r ∈ l, I64s r) (hg : g < w.heap.size) (hr : Rows2 w g o l) :
    Calls Tryz.prog 75 #[(Value.slice (some ⟨g, o, none⟩) n cp)] w (Gives w (.string ⟨(rootsL l).toArray⟩)) := by
  subst hn
  have Hlen : Hid (∀ k, (rowsL [32] (l.take k)).length ≤ 9223372036854775807) := Lib.hid (rowsL_take_len h64 (by decide) hl hcl)
  have H64 := Lib.hid h64
  have Hrow : Hid (∀ k, k < l.length → (l.getD k []).length ≤ 1099511627776) := Lib.hid fun k hk => by
    have h1 := cellsOf_take_succ hk
    have h2 := cellsOf_take_le l (k + 1)
    omega
  have Hr := Lib.hid hr
  clear h64 hr
  go_enter Tryz.func75, Tryz.ntmps75
  go_wp2
  go_loopw [3, 4] (fun sv iv wr => ∃ k : Nat, k ≤ l.length ∧ iv = .int .i64 k ∧ sv = .string ⟨(rowsL [32] (l.take k)).toArray⟩ ∧ Below w.heap.size w wr) (fun _ iv _ => l.length - (intOf iv).toNat)
  case atStart => exact ⟨0, Nat.zero_le _, rfl, by rw [rowsL_zero], Below.refl _ _⟩
  case round =>
    obtain ⟨k, hk, rfl, rfl, hb⟩ := hrel
    by_cases hlt : k < l.length
    · obtain ⟨gj, oj, cj, q1, q2, q3, q4⟩ := (Hr.out.below hb hg) k hlt
      have hcall := spec_FormatWeight_any gj oj _ cj (l.getD k []) wr rfl (Hrow.out k hlt) (rows_i64 H64.out hlt) q3 q4
      by_cases h0 : 0 < k
      · have e1 := addS wr (rowsL [32] (l.take k)) [32] _ rfl (by have h1 := rowsL_next (sep := [32]) hlt h0; have h2 := Hlen.out (k + 1); rw [h1] at h2; simp only [List.length_append] at h2 ⊢; omega)
        have E2 : Hid (∀ W, (Op.stringOp .add ⟨(rowsL [32] (l.take k) ++ [32]).toArray⟩ ⟨(weightL (l.getD k [])).toArray⟩).run Tryz.prog W = .ok (.string ⟨(rowsL [32] (l.take (k + 1))).toArray⟩) W) := Lib.hid fun W => addS W _ _ _ (rowsL_next hlt h0).symm (Hlen.out _)
        have Hcall := Lib.hid hcall
        clear q4 hcall
        generalize hS2 : rowsL [32] (l.take (k + 1)) = S2 at E2
        have HS := Lib.hid hS2
        clear hS2
        generalize rowsL [32] (l.take k) = S1 at e1 E2
        generalize weightL (l.getD k []) = S3 at Hcall E2
        generalize (l.getD k []).length = rl at Hcall q1 q2
        go_wp2_with fail
        refine Hcall.out.mono ?_
        rintro e w1 ⟨rfl, hb1⟩
        have hB := hb.trans (hb1.mono hb.size)
        have e2 := E2.out w1
        go_wp2_with fail
        go_roundw
        case rel => exact ⟨k + 1, by omega, by go_num, by rw [HS.out], hB⟩
        case measure => simp [intOf]; omega
      · obtain rfl : k = 0 := by omega
        have Hcall := Lib.hid hcall
        have HS := Lib.hid (rowsL_first (sep := [32]) hlt)
        have Hl := Lib.hid (show (weightL (l.getD 0 [])).length ≤ 9223372036854775807 from by rw [← HS.out]; exact Hlen.out 1)
        rw [rowsL_zero] at *
        clear q4 hcall
        generalize weightL (l.getD 0 []) = S3 at *
        generalize (l.getD 0 []).length = rl at Hcall q1 q2
        rw [Nat.add_zero] at q1
        go_wp2_with fail
        refine Hcall.out.mono ?_
        rintro e w1 ⟨rfl, hb1⟩
        have hB := hb.trans (hb1.mono hb.size)
        have e2 := addS w1 [] S3 S3 rfl Hl.out
        go_wp2_with fail
        go_roundw
        case rel => exact ⟨1, by omega, rfl, by rw [HS.out], hB⟩
        case measure => simp [intOf]; omega
    · obtain rfl : k = l.length := by omega
      rw [List.take_length] at *
      by_cases hz : l.length = 0
      · have e : rootsL l = [110, 111, 110, 101] := by unfold rootsL; rw [if_pos hz]
        have E := Lib.hid e
        clear e
        go_wp2
        go_ret
        exact ⟨congrArg (fun t => Ending.returned (.string ⟨List.toArray t⟩)) E.out.symm, hb⟩
      · have e : rootsL l = rowsL [32] l := by unfold rootsL; rw [if_neg hz]
        have E := Lib.hid e
        clear e
        go_wp2
        go_ret
        exact ⟨congrArg (fun t => Ending.returned (.string ⟨List.toArray t⟩)) E.out.symm, hb⟩
theorem isC_row {c : List (List Int)} (h : IsC c) {i : Nat} (hi : i < c.length) : (c.getD i []).length = c.length := h.2.2.1 i hi
theorem isC_i64 {c : List (List Int)} (h : IsC c) : ∀ r ∈ c, I64s r := by
  intro r hr x hx
  obtain ⟨i, hi, rfl⟩ := List.mem_iff_getElem.1 hr
  obtain ⟨j, hj, rfl⟩ := List.mem_iff_getElem.1 hx
  have e1 : c.getD i [] = c[i] := by simp [List.getD, hi]
  have hj2 : j < c.length := by have := isC_row h hi; rw [e1] at this; omega
  have he := h.2.2.2 i hi j hj2
  have e2 : ent c i j = c[i][j] := by unfold ent; rw [e1]; simp [List.getD, hj]
  unfold EntOk at he
  rw [e2] at he
  simp [Lit.wf, IntKind.min, IntKind.max, IntKind.signed, IntKind.bits]
  split at he <;> omega
theorem cellsOf_le {l : List (List Int)} {m : Nat} (h : ∀ r ∈ l, r.length ≤ m) : cellsOf l ≤ m * l.length := by
  unfold cellsOf
  induction l with
  | nil => simp
  | cons r l ih =>
    have a := h r (by simp)
    have b := ih fun y hy => h y (by simp [hy])
    simp only [List.map_cons, List.sum_cons, List.length_cons]
    rw [Nat.mul_succ]
    omega
theorem isC_cells {c : List (List Int)} (h : IsC c) : cellsOf c ≤ 16 := by
  have h1 : ∀ r ∈ c, r.length ≤ 4 := by
    intro r hr
    obtain ⟨i, hi, rfl⟩ := List.mem_iff_getElem.1 hr
    have e1 : c.getD i [] = c[i] := by simp [List.getD, hi]
    have := isC_row h hi
    rw [e1] at this
    have := h.2.1
    omega
  have := cellsOf_le h1
  have := h.2.1
  omega
def preL (c : List (List Int)) (i : Nat) : List UInt8 := if 0 < i then rowsL [59] (c.take i) ++ [59] else []
theorem preL_row {c : List (List Int)} {i : Nat} (hi : i < c.length) : preL c i ++ weightL (c.getD i []) = rowsL [59] (c.take (i + 1)) := by
  unfold preL
  by_cases h : 0 < i
  · rw [if_pos h, rowsL_next hi h]
  · obtain rfl : i = 0 := by omega
    rw [if_neg (by omega), rowsL_first hi]
    rfl
set_option maxHeartbeats 2000000 in
theorem spec_FormatCartan_any (g o n cp : Nat) (c : List (List Int)) (w : World) (hn : c.length = n) (hx : c.length ≤ 1099511627776) (hrl : ∀ j, j < c.length → (c.getD j []).length ≤ 1099511627776) (hg : g < w.heap.size) (hr : Rows2 w g o c) :
    Calls Tryz.prog 73 #[(Value.slice (some ⟨g, o, none⟩) n cp)] w (Gives w (.string ⟨(cartanL c).toArray⟩)) := by
  subst hn
  have Hc := Lib.hid (spec_IsCartan g o _ cp c w rfl hx hrl hr)
  by_cases hC : IsC c
  · rw [decide_eq_true hC] at Hc
    have e : cartanL c = rowsL [59] c := by unfold cartanL; rw [if_pos hC]
    rw [e]
    have h64 := isC_i64 hC
    have hcl := isC_cells hC
    have h4 := hC.2.1
    have Hlen : Hid (∀ k, (rowsL [59] (c.take k)).length ≤ 400) := Lib.hid fun k => by
      have h1 := rowsL_len (l := c.take k) (sep := [59]) (fun r hr => h64 r (List.mem_of_mem_take hr))
      have h2 := cellsOf_take_le c k
      have h3 : (c.take k).length ≤ c.length := by rw [List.length_take]; omega
      have h5 : [(59 : UInt8)].length * (c.take k).length = (c.take k).length := by simp
      omega
    have Hpre : Hid (∀ i, (preL c i).length ≤ 401) := Lib.hid fun i => by
      have := Hlen.out i
      unfold preL
      split
      · rw [List.length_append]; simp only [List.length_cons, List.length_nil]; omega
      · simp
    have H64 := Lib.hid h64
    have Hr := Lib.hid hr
    have HC := Lib.hid hC
    have h1 := hC.1
    clear h64 hr hcl hrl e
    go_enter Tryz.func73, Tryz.ntmps73
    go_wp2_with fail
    refine Hc.out.mono ?_
    rintro e w0 ⟨rfl, m0, rfl⟩
    go_wp2
    go_loopw [3, 4] (fun sv iv wr => ∃ i : Nat, i ≤ c.length ∧ iv = .int .i64 i ∧ sv = .string ⟨(rowsL [59] (c.take i)).toArray⟩ ∧ Below w.heap.size w wr) (fun _ iv _ => c.length - (intOf iv).toNat)
    case atStart => exact ⟨0, Nat.zero_le _, rfl, by rw [rowsL_zero], below_drewN' w m0⟩
    case round =>
      obtain ⟨i, hi, rfl, rfl, hb⟩ := hrel
      rename_i wq
      by_cases hlt : i < c.length
      · have Hrl := Lib.hid (isC_row HC.out hlt)
        have S : ∃ (pre : List UInt8), Hid (preL c i = pre) ∧ Hid (pre.length ≤ 401) := ⟨_, Lib.hid rfl, Lib.hid (Hpre.out i)⟩
        obtain ⟨pre, Epre, Lpre⟩ := S
        by_cases h0 : 0 < i
        · have e1 := addS wr (rowsL [59] (c.take i)) [59] pre (by rw [← Epre.out]; unfold preL; rw [if_pos h0]) (by have := Lpre.out; omega)
          go_wp2
          go_loopw [3, 5] (fun sv jv wr => ∃ j : Nat, j ≤ c.length ∧ jv = .int .i64 j ∧ sv = .string ⟨(pre ++ weightL ((c.getD i []).take j)).toArray⟩ ∧ Below w.heap.size w wr) (fun _ jv _ => c.length - (intOf jv).toNat)
          case atStart => exact ⟨0, Nat.zero_le _, rfl, by rw [weightL_zero, List.append_nil], hb⟩
          case round =>
            rename_i wi
            obtain ⟨j, hj, rfl, rfl, hb2⟩ := hrel
            by_cases hjl : j < c.length
            · obtain ⟨gj, oj, cj, q1, q2, q3, q4⟩ := (Hr.out.below hb2 hg) i hlt
              have hjr : j < (c.getD i []).length := by rw [Hrl.out]; exact hjl
              have q5 := q4 j hjr
              rw [Hrl.out] at q1 q2
              have hcall := spec_FormatInt_any ((c.getD i []).getD j 0) wr ((rows_i64 H64.out hlt).at hjr)
              have Hlj : Hid (∀ j, (weightL ((c.getD i []).take j)).length ≤ 200) := Lib.hid fun j => by
                have h1 := weightL_len ((rows_i64 H64.out hlt).take j)
                have h2 : ((c.getD i []).take j).length ≤ 4 := by rw [List.length_take]; have := Hrl.out; omega
                omega
              have Hcall := Lib.hid hcall
              clear q4 hcall hb
              by_cases hj0 : 0 < j
              · have Hn := Lib.hid (weightL_next hjr hj0)
                have Ln : Hid ((weightL ((c.getD i []).take j)).length + 1 + (itoa ((c.getD i []).getD j 0)).length ≤ 200) := Lib.hid (by
                  have h1 := Hlj.out (j + 1)
                  rw [Hn.out] at h1
                  simp only [List.length_append, List.length_cons, List.length_nil] at h1
                  omega)
                generalize hS1 : weightL ((c.getD i []).take j) = S1 at Ln Hn ⊢
                generalize (c.getD i []).getD j 0 = x at Ln Hn q5 Hcall
                have e2 := addS wr (pre ++ S1) [44] _ rfl (by have := Lpre.out; have := Ln.out; simp only [List.length_append, List.length_cons, List.length_nil]; omega)
                have E3 : Hid (∀ W, (Op.stringOp .add ⟨(pre ++ S1 ++ [44]).toArray⟩ ⟨(itoa x).toArray⟩).run Tryz.prog W = .ok (.string ⟨(pre ++ weightL ((c.getD i []).take (j + 1))).toArray⟩) W) := Lib.hid fun W => addS W _ _ _ (by rw [Hn.out]; simp) (by have := Lpre.out; have := Hlj.out (j + 1); simp only [List.length_append]; omega)
                clear hS1
                generalize hT : pre ++ weightL ((c.getD i []).take (j + 1)) = T at E3
                have HT := Lib.hid hT
                clear hT
                generalize pre ++ S1 ++ [44] = U at e2 E3
                generalize pre ++ S1 = V at e2 ⊢
                generalize itoa x = X at E3 Hcall
                clear Ln Hn
                go_wp2_with fail
                refine Hcall.out.mono ?_
                rintro e w1 ⟨rfl, hb1⟩
                have hB := hb2.trans (hb1.mono hb2.size)
                have e3 := E3.out w1
                go_wp2_with fail
                go_roundw
                case rel => exact ⟨j + 1, by omega, by go_num, by rw [HT.out], hB⟩
                case measure => simp [intOf]; omega
              · obtain rfl : j = 0 := by omega
                have HS := Lib.hid (weightL_first hjr)
                have Ln : Hid ((itoa ((c.getD i []).getD 0 0)).length ≤ 200) := Lib.hid (by rw [← HS.out]; exact Hlj.out 1)
                generalize (c.getD i []).getD 0 0 = x at HS q5 Hcall Ln
                rw [weightL_zero, List.append_nil] at *
                have E3 : Hid (∀ W, (Op.stringOp .add ⟨pre.toArray⟩ ⟨(itoa x).toArray⟩).run Tryz.prog W = .ok (.string ⟨(pre ++ itoa x).toArray⟩) W) := Lib.hid fun W => addS W _ _ _ rfl (by have := Lpre.out; have := Ln.out; simp only [List.length_append]; omega)
                generalize itoa x = X at HS Hcall E3
                generalize hT : pre ++ X = T at E3
                have HT := Lib.hid hT
                clear hT
                rw [Nat.add_zero] at q5
                clear Ln
                go_wp2_with fail
                refine Hcall.out.mono ?_
                rintro e w1 ⟨rfl, hb1⟩
                have hB := hb2.trans (hb1.mono hb2.size)
                have e3 := E3.out w1
                go_wp2_with fail
                go_roundw
                case rel => exact ⟨1, by omega, rfl, by rw [HS.out, HT.out], hB⟩
                case measure => simp [intOf]; omega
            · obtain rfl : j = c.length := by omega
              have hT : pre ++ weightL ((c.getD i []).take c.length) = rowsL [59] (c.take (i + 1)) := by
                rw [← Hrl.out, List.take_length, ← Epre.out]
                exact preL_row hlt
              rw [hT] at *
              clear hT
              generalize hT : rowsL [59] (c.take (i + 1)) = T
              have HT := Lib.hid hT
              clear hT
              go_wp2
              go_roundw
              case rel => exact ⟨i + 1, by omega, by go_num, by first | rfl | rw [HT.out], hb2⟩
              case measure => simp [intOf]; omega
        · have e0 : rowsL [59] (c.take i) = pre := by
            obtain rfl : i = 0 := by omega
            rw [rowsL_zero, ← Epre.out]; unfold preL; rw [if_neg (by omega)]
          rw [e0] at *
          clear e0
          go_wp2
          go_loopw [3, 5] (fun sv jv wr => ∃ j : Nat, j ≤ c.length ∧ jv = .int .i64 j ∧ sv = .string ⟨(pre ++ weightL ((c.getD i []).take j)).toArray⟩ ∧ Below w.heap.size w wr) (fun _ jv _ => c.length - (intOf jv).toNat)
          case atStart => exact ⟨0, Nat.zero_le _, rfl, by rw [weightL_zero, List.append_nil], hb⟩
          case round =>
            rename_i wi
            obtain ⟨j, hj, rfl, rfl, hb2⟩ := hrel
            by_cases hjl : j < c.length
            · obtain ⟨gj, oj, cj, q1, q2, q3, q4⟩ := (Hr.out.below hb2 hg) i hlt
              have hjr : j < (c.getD i []).length := by rw [Hrl.out]; exact hjl
              have q5 := q4 j hjr
              rw [Hrl.out] at q1 q2
              have hcall := spec_FormatInt_any ((c.getD i []).getD j 0) wr ((rows_i64 H64.out hlt).at hjr)
              have Hlj : Hid (∀ j, (weightL ((c.getD i []).take j)).length ≤ 200) := Lib.hid fun j => by
                have h1 := weightL_len ((rows_i64 H64.out hlt).take j)
                have h2 : ((c.getD i []).take j).length ≤ 4 := by rw [List.length_take]; have := Hrl.out; omega
                omega
              have Hcall := Lib.hid hcall
              clear q4 hcall hb
              by_cases hj0 : 0 < j
              · have Hn := Lib.hid (weightL_next hjr hj0)
                have Ln : Hid ((weightL ((c.getD i []).take j)).length + 1 + (itoa ((c.getD i []).getD j 0)).length ≤ 200) := Lib.hid (by
                  have h1 := Hlj.out (j + 1)
                  rw [Hn.out] at h1
                  simp only [List.length_append, List.length_cons, List.length_nil] at h1
                  omega)
                generalize hS1 : weightL ((c.getD i []).take j) = S1 at Ln Hn ⊢
                generalize (c.getD i []).getD j 0 = x at Ln Hn q5 Hcall
                have e2 := addS wr (pre ++ S1) [44] _ rfl (by have := Lpre.out; have := Ln.out; simp only [List.length_append, List.length_cons, List.length_nil]; omega)
                have E3 : Hid (∀ W, (Op.stringOp .add ⟨(pre ++ S1 ++ [44]).toArray⟩ ⟨(itoa x).toArray⟩).run Tryz.prog W = .ok (.string ⟨(pre ++ weightL ((c.getD i []).take (j + 1))).toArray⟩) W) := Lib.hid fun W => addS W _ _ _ (by rw [Hn.out]; simp) (by have := Lpre.out; have := Hlj.out (j + 1); simp only [List.length_append]; omega)
                clear hS1
                generalize hT : pre ++ weightL ((c.getD i []).take (j + 1)) = T at E3
                have HT := Lib.hid hT
                clear hT
                generalize pre ++ S1 ++ [44] = U at e2 E3
                generalize pre ++ S1 = V at e2 ⊢
                generalize itoa x = X at E3 Hcall
                clear Ln Hn
                go_wp2_with fail
                refine Hcall.out.mono ?_
                rintro e w1 ⟨rfl, hb1⟩
                have hB := hb2.trans (hb1.mono hb2.size)
                have e3 := E3.out w1
                go_wp2_with fail
                go_roundw
                case rel => exact ⟨j + 1, by omega, by go_num, by rw [HT.out], hB⟩
                case measure => simp [intOf]; omega
              · obtain rfl : j = 0 := by omega
                have HS := Lib.hid (weightL_first hjr)
                have Ln : Hid ((itoa ((c.getD i []).getD 0 0)).length ≤ 200) := Lib.hid (by rw [← HS.out]; exact Hlj.out 1)
                generalize (c.getD i []).getD 0 0 = x at HS q5 Hcall Ln
                rw [weightL_zero, List.append_nil] at *
                have E3 : Hid (∀ W, (Op.stringOp .add ⟨pre.toArray⟩ ⟨(itoa x).toArray⟩).run Tryz.prog W = .ok (.string ⟨(pre ++ itoa x).toArray⟩) W) := Lib.hid fun W => addS W _ _ _ rfl (by have := Lpre.out; have := Ln.out; simp only [List.length_append]; omega)
                generalize itoa x = X at HS Hcall E3
                generalize hT : pre ++ X = T at E3
                have HT := Lib.hid hT
                clear hT
                rw [Nat.add_zero] at q5
                clear Ln
                go_wp2_with fail
                refine Hcall.out.mono ?_
                rintro e w1 ⟨rfl, hb1⟩
                have hB := hb2.trans (hb1.mono hb2.size)
                have e3 := E3.out w1
                go_wp2_with fail
                go_roundw
                case rel => exact ⟨1, by omega, rfl, by rw [HS.out, HT.out], hB⟩
                case measure => simp [intOf]; omega
            · obtain rfl : j = c.length := by omega
              have hT : pre ++ weightL ((c.getD i []).take c.length) = rowsL [59] (c.take (i + 1)) := by
                rw [← Hrl.out, List.take_length, ← Epre.out]
                exact preL_row hlt
              rw [hT] at *
              clear hT
              generalize hT : rowsL [59] (c.take (i + 1)) = T
              have HT := Lib.hid hT
              clear hT
              go_wp2
              go_roundw
              case rel => exact ⟨i + 1, by omega, by go_num, by first | rfl | rw [HT.out], hb2⟩
              case measure => simp [intOf]; omega
      · obtain rfl : i = c.length := by omega
        rw [List.take_length] at *
        go_wp2
        go_ret
        exact ⟨rfl, hb⟩
  · rw [decide_eq_false hC] at Hc
    have e : cartanL c = [] := by unfold cartanL; rw [if_neg hC]
    rw [e]
    go_enter Tryz.func73, Tryz.ntmps73
    go_wp2_with fail
    refine Hc.out.mono ?_
    rintro e w0 ⟨rfl, m0, rfl⟩
    go_wp2
    go_ret
    exact ⟨rfl, below_drewN' w m0⟩
theorem inRange_true {x : Int} (h : 0 ≤ x ∧ x < 4) : (decide (0 ≤ x) && decide (x ≤ 3)) = true := by simp; omega
theorem inRange_false {x : Int} (h : ¬ (0 ≤ x ∧ x < 4)) : (decide (0 ≤ x) && decide (x ≤ 3)) = false := by simp; omega
theorem wf_small {x : Int} (h : -1000 ≤ x ∧ x ≤ 1000) : (Lit.int .i64 x).wf = true := by
  simp [Lit.wf, IntKind.min, IntKind.max, IntKind.signed, IntKind.bits]; omega
set_option maxHeartbeats 1000000 in
theorem spec_FormatWord_any (g o n cp : Nat) (l : List Int) (w : World) (hn : l.length = n) (hl : l.length ≤ 1099511627776) (hg : g < w.heap.size) (hc : Cells w g o l) :
    Calls Tryz.prog 72 #[(Value.slice (some ⟨g, o, none⟩) n cp)] w (Gives w (.string ⟨(wordL l).toArray⟩)) := by
  subst hn
  generalize hR : wordL l = R
  have HR := Lib.hid hR
  clear hR
  go_enter Tryz.func72, Tryz.ntmps72
  go_wp2
  go_loopw [3, 4] (fun sv iv wr => ∃ k : Nat, k ≤ l.length ∧ iv = .int .i64 k ∧ sv = .string ⟨(digs (l.take k)).toArray⟩ ∧ (∀ j, j < k → 0 ≤ l.getD j 0 ∧ l.getD j 0 < 4) ∧ Below w.heap.size w wr) (fun _ iv _ => l.length - (intOf iv).toNat)
  case atStart => exact ⟨0, Nat.zero_le _, rfl, rfl, by omega, Below.refl _ _⟩
  case round =>
    obtain ⟨k, hk, rfl, rfl, hin, hb⟩ := hrel
    by_cases hlt : k < l.length
    · have q1 := (hb.cell (p := ⟨g, o + k, none⟩) hg).trans (hc k hlt)
      have hin1 := spec_l1In (l.getD k 0) 0 3 wr
      by_cases hx : 0 ≤ l.getD k 0 ∧ l.getD k 0 < 4
      · have hd : (decide (0 ≤ l.getD k 0) && decide (l.getD k 0 ≤ 3)) = true := inRange_true hx
        rw [hd] at hin1
        have hcall := fun W => spec_FormatInt_any (l.getD k 0 + 1) W (wf_small ⟨by omega, by omega⟩)
        have Hcall := Lib.hid hcall
        have Hin1 := Lib.hid hin1
        have HS := Lib.hid (digs_take hlt)
        have Hl : Hid ((digs (l.take k)).length ≤ 1099511627776) := Lib.hid (by unfold digs; rw [List.length_map, List.length_take]; omega)
        have Hnext : Hid (∀ j, j < k + 1 → 0 ≤ l.getD j 0 ∧ l.getD j 0 < 4) := Lib.hid fun j hj => by
          by_cases e : j = k
          · subst e; exact hx
          · exact hin j (by omega)
        rw [itoa_letter hx.1 hx.2] at Hcall
        have ew : wrap64 (l.getD k 0 + 1) = l.getD k 0 + 1 := IntWalk.wrap64_in _ ⟨by omega, by omega⟩
        generalize UInt8.ofNat (49 + (l.getD k 0).toNat) = bt at Hcall HS
        generalize digs (l.take k) = S1 at *
        generalize l.getD k 0 = x at *
        clear hcall hin1 hd hin hx
        go_wp2_with fail
        refine Hin1.out.mono ?_
        rintro e w1 ⟨rfl, m1, rfl⟩
        go_wp2_with fail
        refine (Hcall.out _).mono ?_
        rintro e w2 ⟨rfl, hb2⟩
        have hB := hb.trans ((below_drewN' wr m1).mono hb.size)
        have hB := hB.trans (hb2.mono hB.size)
        have e2 := addS w2 S1 [bt] _ rfl (by have := Hl.out; simp only [List.length_append, List.length_cons, List.length_nil]; omega)
        go_wp2_with fail
        go_roundw
        case rel => exact ⟨k + 1, by omega, by go_num, by rw [HS.out], Hnext.out, hB⟩
        case measure => simp [intOf]; omega
      · have hd : (decide (0 ≤ l.getD k 0) && decide (l.getD k 0 ≤ 3)) = false := inRange_false hx
        rw [hd] at hin1
        have hR : R = [] := by rw [← HR.out]; unfold wordL; rw [if_neg (by omega), if_neg (not_inW hlt hx)]
        subst hR
        have Hin1 := Lib.hid hin1
        generalize l.getD k 0 = x at q1 Hin1
        clear hin1 hd hin hx HR
        go_wp2_with fail
        refine Hin1.out.mono ?_
        rintro e w1 ⟨rfl, m1, rfl⟩
        go_wp2
        go_ret
        exact ⟨rfl, hb.trans ((below_drewN' wr m1).mono hb.size)⟩
    · obtain rfl : k = l.length := by omega
      rw [List.take_length] at *
      by_cases hz : l.length = 0
      · have e : R = [101] := by rw [← HR.out]; unfold wordL; rw [if_pos hz]
        have e2 : digs l = [] := by rw [List.length_eq_zero_iff.1 hz]; rfl
        subst e
        rw [e2] at *
        clear HR hin
        go_wp2
        go_ret
        exact ⟨rfl, hb⟩
      · have e : R = digs l := by rw [← HR.out]; unfold wordL; rw [if_neg hz, if_pos (inW_of_take hin)]
        have e2 : ¬ digs l = [] := by
          intro h
          have := congrArg List.length h
          unfold digs at this
          rw [List.length_map] at this
          exact hz this
        subst e
        have e3 : (digs l).isEmpty = false := by simpa using e2
        clear HR hin
        go_wp2
        go_ret
        exact ⟨rfl, hb⟩
end Go.Proofs.YtkjglfafphffiaaGreatDoor
namespace Go.Proofs.YtkjglfafphffiaaGreatDoor
set_option maxRecDepth 100000
open Go.RowKit
theorem infoStr : (Tryz.prog.info? 9).map (fun i => (i.zero, i.size, i.bytes)) = some (some (.string ⟨#[]⟩), 1, 16) := by kernel_rfl
def OwnStrs (w : World) (B g cap : Nat) (xs : List ByteArray) : Prop := OwnK w B 9 1 g cap xs.length (xs.map Value.string)
section
variable {w w' : World} {B g cap : Nat} {xs : List ByteArray}
theorem OwnStrs.empty (hB : B ≤ w.heap.size) : OwnStrs (w.alloc (.cells #[] 9)) B w.heap.size 0 [] := World.ownsRow_lit w #[] 0 hB (by decide) rfl
theorem OwnStrs.one (x : ByteArray) (hB : B ≤ w.heap.size) : OwnStrs (w.alloc (.cells #[.string x] 9)) B w.heap.size 1 [x] := World.ownsRow_lit w #[.string x] 1 hB (by decide) rfl
theorem OwnStrs.cell (h : OwnStrs w B g cap xs) : ∀ (j : Nat) x, xs[j]? = some x → w.cell? ⟨g, 0 + j, none⟩ = some (.string x) := by
  intro j x hx
  have hj : j < xs.length := (List.getElem?_eq_some_iff.1 hx).1
  rw [Nat.zero_add, OwnK.cell h j (by rw [List.length_map]; exact hj)]
  have : xs[j] = x := by rw [List.getElem?_eq_getElem hj] at hx; exact Option.some.inj hx
  simp [this]
theorem OwnStrs.capLe (h : OwnStrs w B g cap xs) : xs.length ≤ cap := by obtain ⟨cur, -, h2, -⟩ := OwnK.row h; exact h2
theorem wpList_append_str {ops : Array Oper} {rest : List Oper} {o : Oper} {a : Act} {Q : Exit → Act → World → Prop} (hgd : o.guard = none) (s x : Operand)
    (ho : o.op = .call { callee := .builtin .append, args := #[s, x], argTypes := #[66, 66] })
    (B g cap n H : Nat) (xs : List ByteArray) (z : ByteArray) (w W : World) (hn : xs.length = n) (hW : W = w.alloc (.cells #[.string z] 9)) (hH : w.heap.size = H) (hown : OwnStrs w B g cap xs)
    (hs : a.eval s = (Value.slice (some ⟨g, 0, none⟩) n cap)) (hx : a.eval x = (Value.slice (some ⟨H, 0, none⟩) 1 1)) (hlen : n + 1 ≤ 1048576)
    (h : ∀ g' cap' w', OwnStrs w' B g' cap' (xs ++ [z]) → w.grownBy w' (some g) → (g' = g ∨ w.heap.size < g') → wpList Tryz.prog ops Q rest (a.put o.dst (Value.slice (some ⟨g', 0, none⟩) (n + 1) cap')) w') :
    wpList Tryz.prog ops Q (o :: rest) a W := by
  subst hn; subst hW; subst hH
  have hnew := OwnStrs.one (w := w) (B := w.heap.size) z (Nat.le_refl _)
  refine wpList_append_K infoStr Tryz.underlying66 rfl (by decide) (by decide) hgd s x ho B g cap xs.length (xs.map Value.string) (OwnK.alloc hown _) w.heap.size 0 1 1 [.string z] rfl ?_ ?_ hs hx hlen ?_
  · intro j u hu
    have hj : j = 0 := by have := (List.getElem?_eq_some_iff.1 hu).1; simp at this; exact this
    subst hj
    have := hnew.cell 0 z rfl
    rw [this]
    simpa using hu
  · intro u hu
    simp at hu
    subst hu
    rfl
  · intro g' cap' w' h2 h3 h4
    refine h g' cap' w' ?_ ⟨h3.os, h3.tape, h3.output, Nat.le_trans (by simp) h3.size, fun k hk hne => (h3.block k (by simp; omega) hne).trans (Below.heap_alloc _ _ _ hk)⟩ (h4.imp id (by simp; omega))
    unfold OwnStrs
    rw [List.map_append, List.length_append]
    exact h2
end
end Go.Proofs.YtkjglfafphffiaaGreatDoor
