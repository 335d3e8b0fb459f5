/- Slices of bytes of the call's own; the program's FormatWord: contract. Lists of strings by their bytes; strings.Join with a blank; line: contracts. strings.Split of what was joined by one byte: contract. The table of the longest slice, from the world's shape. BondOf, AlternatingWord of both: contracts. slices.Concat of lists of integers that hold one at least: contract. Comparisons of integers, of lists, of words: contracts. Membership in a list of rows: the reference's. Small roots: what both searches find. Plain law. Roots: pairings, mirrors, heights, the order: contracts. IsWord of both: contracts. Images of roots under words, sequences of roots: contracts of both. Determinants of small matrices, sets of points, finite types: plain law. Sets of bits, picked matrices: contracts. -/
import Derived.Test.YtdedkfbiookofaaGreatDoorK02
import Derived.Test.YtdedkfbiookofaaGreatDoorK01
import Derived.Lib.AppendIntMem
import Derived.Test.YtdedkfbiookofaaGreatDoorSlat
import Derived.Lib.SmallJoins
import Derived.Lib.SplitLaws
import Derived.Shelf.Vars
import Derived.BigQuiet
import Derived.Test.YtdedkfbiookofaaGreatDoorK00
import Derived.Lib.AppendZeros
import Derived.Deep.RegionWith
import Derived.Deep.RegionHeld3
import Derived.Lib.RabinKarpLaws
namespace Go.Proofs.YtdedkfbiookofaaGreatDoor
set_option maxRecDepth 100000
open Go.RowKit
set_option maxRecDepth 100000
theorem infoU8 : (Tryz.prog.info? 5).map (fun i => (i.zero, i.size, i.bytes)) = some (some (.int .u8 0), 1, 1) := by kernel_rfl
def u8V (b : UInt8) : Value := .int .u8 (b.toNat : Int)
def OwnBytes (w : World) (B g cap : Nat) (xs : List UInt8) : Prop := OwnK w B 5 1 g cap xs.length (xs.map u8V)
section
variable {w w' : World} {B g cap : Nat} {xs : List UInt8}
theorem OwnBytes.empty (hB : B ≤ w.heap.size) : OwnBytes (w.alloc (.cells #[] 5)) B w.heap.size 0 [] := World.ownsRow_lit w #[] 0 hB (by decide) rfl
theorem OwnBytes.one (x : UInt8) (hB : B ≤ w.heap.size) : OwnBytes (w.alloc (.cells #[u8V x] 5)) B w.heap.size 1 [x] := World.ownsRow_lit w #[u8V x] 1 hB (by decide) rfl
theorem OwnBytes.cell (h : OwnBytes w B g cap xs) (j : Nat) (hj : j < xs.length) : w.cell? ⟨g, j, none⟩ = some (u8V xs[j]) := by
  rw [OwnK.cell h j (by rw [List.length_map]; exact hj)]
  simp
theorem wpList_append_byte {ops : Array Oper} {rest : List Oper} {o : Oper} {a : Act} {Q : Exit → Act → World → Prop} (hgd : o.guard = none) (s x : Operand)
    (ho : o.op = .call { callee := .builtin .append, args := #[s, x], argTypes := #[22, 22] })
    (B g cap n H : Nat) (xs : List UInt8) (z : UInt8) (w W : World) (hn : xs.length = n) (hW : W = w.alloc (.cells #[u8V z] 5)) (hH : w.heap.size = H) (hown : OwnBytes w B g cap xs)
    (hs : a.eval s = (Value.slice (some ⟨g, 0, none⟩) n cap)) (hx : a.eval x = (Value.slice (some ⟨H, 0, none⟩) 1 1)) (hlen : n + 1 ≤ 1048576)
    (h : ∀ g' cap' w', OwnBytes w' B g' cap' (xs ++ [z]) → w.grownBy w' (some g) → (g' = g ∨ w.heap.size < g') → wpList Tryz.prog ops Q rest (a.put o.dst (Value.slice (some ⟨g', 0, none⟩) (n + 1) cap')) w') :
    wpList Tryz.prog ops Q (o :: rest) a W := by
  subst hn; subst hW; subst hH
  have hnew := OwnBytes.one (w := w) (B := w.heap.size) z (Nat.le_refl _)
  refine wpList_append_K infoU8 Tryz.underlying22 rfl (by decide) (by decide) hgd s x ho B g cap xs.length (xs.map u8V) (OwnK.alloc hown _) w.heap.size 0 1 1 [u8V z] rfl ?_ ?_ hs hx hlen ?_
  · intro j u hu
    have hj : j = 0 := by have := (List.getElem?_eq_some_iff.1 hu).1; simp at this; exact this
    subst hj
    have := hnew.cell 0 (by simp)
    rw [Nat.zero_add, this]
    simpa using hu
  · intro u hu
    simp at hu
    subst hu
    rfl
  · intro g' cap' w' h2 h3 h4
    refine h g' cap' w' ?_ ⟨h3.os, h3.tape, h3.output, Nat.le_trans (by simp) h3.size, fun k hk hne => (h3.block k (by simp; omega) hne).trans (Below.heap_alloc _ _ _ hk)⟩ (h4.imp id (by simp; omega))
    unfold OwnBytes
    rw [List.map_append, List.length_append]
    exact h2
end
theorem letterV {i : Int} (h0 : 0 ≤ i) (h1 : i < 4) : Value.int .u8 (49 + i) = u8V (UInt8.ofNat (49 + i.toNat)) := by
  unfold u8V
  rw [UInt8.toNat_ofNat']
  congr 1
  omega
set_option maxHeartbeats 1000000 in
theorem impl_FormatWord_any (g o n cp : Nat) (l : List Int) (w : World) (hn : l.length = n) (hl : l.length ≤ 1048576) (hg : g < w.heap.size) (hc : Cells w g o l) :
    Calls Tryz.prog 75 #[(Value.slice (some ⟨g, o, none⟩) n cp)] w (Gives w (.string ⟨(wordL l).toArray⟩)) := by
  subst hn
  by_cases hz : l.length = 0
  · have e : wordL l = [101] := by unfold wordL; rw [if_pos hz]
    rw [e, hz]
    go_enter Tryz.func75, Tryz.ntmps75
    go_wp2
    go_ret
    exact ⟨rfl, Below.refl _ _⟩
  have hz2 : ((l.length : Int) == 0) = false := by simpa using hz
  generalize hR : wordL l = R
  have HR := Lib.hid hR
  have Hz := Lib.hid hz
  clear hR hz
  go_enter Tryz.func75, Tryz.ntmps75
  go_wp2
  go_loopw [3, 12] (fun ov kv wr => ∃ (k g2 c2 : Nat), k ≤ l.length ∧ kv = .int .i64 k ∧ ov = (Value.slice (some ⟨g2, 0, none⟩) k c2) ∧ (∀ j, j < k → 0 ≤ l.getD j 0 ∧ l.getD j 0 < 4) ∧ OwnBytes wr w.heap.size g2 c2 (digs (l.take k)) ∧ Below w.heap.size w wr) (fun _ kv _ => l.length - (intOf kv).toNat)
  case atStart => exact ⟨0, _, 0, Nat.zero_le _, rfl, rfl, by omega, OwnBytes.empty (Nat.le_refl _), (Below.refl _ _).alloc (Nat.le_refl _) _⟩
  case round =>
    obtain ⟨k, g2, c2, hk, rfl, rfl, hin, ho, hb⟩ := hrel
    by_cases hlt : k < l.length
    · have q1 := (hb.cell (p := ⟨g, o + k, none⟩) hg).trans (hc k hlt)
      by_cases hx0 : l.getD k 0 < 0
      · have hR : R = [] := by rw [← HR.out]; unfold wordL; rw [if_neg Hz.out, if_neg (not_inW hlt (by omega))]
        subst hR
        generalize l.getD k 0 = x at *
        clear hin HR
        go_wp2
        go_ret
        exact ⟨rfl, hb⟩
      by_cases hx4 : 4 ≤ l.getD k 0
      · have hR : R = [] := by rw [← HR.out]; unfold wordL; rw [if_neg Hz.out, if_neg (not_inW hlt (by omega))]
        subst hR
        generalize l.getD k 0 = x at *
        clear hin HR
        go_wp2
        go_ret
        exact ⟨rfl, hb⟩
      have HS := Lib.hid (digs_take hlt)
      have Htl : Hid ((digs (l.take k)).length = k) := Lib.hid (by unfold digs; rw [List.length_map, List.length_take]; omega)
      have Hnext : Hid (∀ j, j < k + 1 → 0 ≤ l.getD j 0 ∧ l.getD j 0 < 4) := Lib.hid fun j hj => by
        by_cases e : j = k
        · subst e; exact ⟨by omega, by omega⟩
        · exact hin j (by omega)
      have ew : wrap64 (49 + l.getD k 0) = 49 + l.getD k 0 := IntWalk.wrap64_in _ ⟨by omega, by omega⟩
      have em : (49 + l.getD k 0) % 256 = 49 + l.getD k 0 := by omega
      have HV := Lib.hid (letterV (i := l.getD k 0) (by omega) (by omega))
      generalize UInt8.ofNat (49 + (l.getD k 0).toNat) = bt at HS HV
      generalize l.getD k 0 = x at hx0 hx4 q1 ew em HV
      clear hin
      go_wp2_with (at_builtin; refine wpList_append_byte rfl _ _ rfl w.heap.size g2 c2 k wr.heap.size (digs (l.take k)) bt wr _ Htl.out (by rw [← HV.out]) rfl ho rfl rfl (by omega) ?_)
      intro g3 c3 w3 ho3 hg3 hor3
      have hb3 : Below w.heap.size w w3 := hb.grown hg3 hb.size (by intro t ht; cases ht; exact OwnK.base ho)
      rw [← HS.out] at ho3
      clear ho hg3
      go_wp2_with fail
      go_roundw
      case rel => exact ⟨k + 1, g3, c3, by omega, by go_num, rfl, Hnext.out, ho3, hb3⟩
      case measure => simp [intOf]; omega
    · obtain rfl : k = l.length := by omega
      rw [List.take_length] at ho
      have hR : R = digs l := by rw [← HR.out]; unfold wordL; rw [if_neg Hz.out, if_pos (inW_of_take hin)]
      subst hR
      have hdl : (digs l).length = l.length := by unfold digs; rw [List.length_map]
      have hcv := run_convert_bytes_back (P := Tryz.prog) wr 22 9 5 ⟨g2, 0, none⟩ c2 (digs l) Tryz.underlying22 Tryz.underlying5 Tryz.underlying9 (fun j hj => by
        have := ho.cell j hj
        rw [Addr.add_lit, Nat.zero_add]
        exact this)
      rw [hdl] at hcv
      clear hin HR ho
      go_wp2
      go_ret
      exact ⟨rfl, hb⟩
end Go.Proofs.YtdedkfbiookofaaGreatDoor
namespace Go.Proofs.YtdedkfbiookofaaGreatDoor
set_option maxRecDepth 100000
open Go.RowKit
open Go.Lib (join decDigits itoa)
def strs (L : List (List UInt8)) : List ByteArray := L.map fun l => ⟨l.toArray⟩
theorem strs_data (L : List (List UInt8)) : (strs L).map (·.data.toList) = L := by
  unfold strs
  rw [List.map_map]
  have : ((fun x : ByteArray => x.data.toList) ∘ fun l : List UInt8 => ⟨l.toArray⟩) = id := by funext l; simp
  rw [this, List.map_id]
end Go.Proofs.YtdedkfbiookofaaGreatDoor
namespace Go.Proofs.YtdedkfbiookofaaGreatDoor
set_option maxRecDepth 100000
open Go.RowKit
open Go.Lib (join)
theorem index_one (c : UInt8) (r : List UInt8) : ∀ x : List UInt8, c ∉ x → Lib.index (x ++ c :: r) [c] = (x.length : Int)
  | [], _ => by
    show Lib.index (c :: r) [c] = 0
    unfold Lib.index
    rw [if_pos (by simp [List.isPrefixOf])]
  | b :: x, h => by
    have hb : c ≠ b := fun e => h (by simp [e])
    have ih := index_one c r x fun hm => h (by simp [hm])
    show Lib.index (b :: (x ++ c :: r)) [c] = _
    unfold Lib.index
    rw [if_neg (by simp [List.isPrefixOf, hb]), ih]
    rw [if_neg (by rw [beq_iff_eq]; omega)]
    simp
theorem splitK_join (c : UInt8) : ∀ (L : List (List UInt8)), L ≠ [] → (∀ x ∈ L, c ∉ x) → Lib.splitK [c] 0 (Lib.count (join L [c]) [c]) (join L [c]) = L ∧ Lib.count (join L [c]) [c] + 1 = L.length
  | [], h, _ => absurd rfl h
  | [x], _, h => by
    have e : join [x] [c] = x := by simp [join, List.intercalate]
    rw [e]
    have e0 : Lib.count x [c] = 0 := by rw [Lib.count_one]; exact List.count_eq_zero.2 (h x (by simp))
    rw [e0]
    exact ⟨rfl, rfl⟩
  | x :: y :: L, _, h => by
    have ih := splitK_join c (y :: L) (by simp) fun z hz => h z (by simp [hz])
    have e : join (x :: y :: L) [c] = x ++ c :: join (y :: L) [c] := by simp [join, List.intercalate, List.intersperse]
    have hx := h x (by simp)
    have e0 : Lib.count (join (x :: y :: L) [c]) [c] = Lib.count (join (y :: L) [c]) [c] + 1 := by
      rw [Lib.count_one, Lib.count_one, e, List.count_append, List.count_cons, List.count_eq_zero.2 hx]
      simp
    rw [e0, e]
    have hi := index_one c (join (y :: L) [c]) x hx
    refine ⟨?_, by rw [ih.2]; rfl⟩
    unfold Lib.splitK
    rw [hi, if_neg (by rw [beq_iff_eq]; omega)]
    have ht : ((x.length : Int)).toNat = x.length := by omega
    rw [ht, Nat.add_zero, List.take_left']
    · congr 1
      rw [show x ++ c :: join (y :: L) [c] = (x ++ [c]) ++ join (y :: L) [c] by simp, List.drop_left' (by simp)]
      exact ih.1
    · rfl
theorem strs_of {l : List ByteArray} {L : List (List UInt8)} (h : l.map (·.data.toList) = L) : l = strs L := by
  subst h
  unfold strs
  rw [List.map_map]
  have : ((fun l : List UInt8 => (⟨l.toArray⟩ : ByteArray)) ∘ fun x : ByteArray => x.data.toList) = id := by funext x; rfl
  rw [this, List.map_id]
/-- the length that internal/bytealg was told -/
def MaxL (w : World) : Prop := ∃ m : Int, w.cell? ⟨1, 0, none⟩ = some (.int .i64 m)
theorem MaxL.below {w w' : World} (h : MaxL w) (hb : Below w.heap.size w w') : MaxL w' := by
  obtain ⟨m, hm⟩ := h
  exact ⟨m, (hb.cell (p := ⟨1, 0, none⟩) (World.block_lt_of_cell? w _ hm)).trans hm⟩
theorem split_ok (c : UInt8) (L : List (List UInt8)) (w : World) (hL : L ≠ []) (hLn : L.length ≤ 1048576) (hc : ∀ x ∈ L, c ∉ x) (hl : (join L [c]).length < 4294967281) (hm : MaxL w) :
    Calls Tryz.prog 177 #[.string ⟨(join L [c]).toArray⟩, .string ⟨#[c]⟩] w fun e w' => ∃ g, e = .returned (Value.slice (some ⟨g, 0, none⟩) L.length L.length) ∧ OwnStrs w' w.heap.size g L.length (strs L) ∧ Below w.heap.size w w' := by
  obtain ⟨m, hm⟩ := hm
  have h := Any.strings_Split Tryz.lays146 (by kernel_rfl) ⟨(join L [c]).toArray⟩ ⟨#[c]⟩ m w (by simpa [ByteArray.size] using hl) hm (by simp [ByteArray.size])
  change Calls Tryz.prog 177 _ _ _ at h
  have e1 : Lib.countB ⟨(join L [c]).toArray⟩ ⟨#[c]⟩ = Lib.count (join L [c]) [c] := rfl
  obtain ⟨s1, s2⟩ := splitK_join c L hL hc
  have e2 : Lib.splitB ⟨#[c]⟩ 0 (Lib.count (join L [c]) [c]) ⟨(join L [c]).toArray⟩ = strs L := by
    apply strs_of
    rw [Lib.splitB_data]
    exact s1
  rw [e1, s2, e2] at h
  refine h.mono ?_
  rintro e w' ⟨rfl, rfl⟩
  refine ⟨w.heap.size, rfl, ?_, (Below.refl _ _).alloc (Nat.le_refl _) _⟩
  have hn : (strs L).length = L.length := by simp [strs]
  have h2 : (w.alloc (.cells ((strs L).map Value.string).toArray 9)).ownsRow w.heap.size 9 1 (Value.slice (some ⟨w.heap.size, 0, none⟩) L.length L.length) L.length ((strs L).map Value.string).toArray.toList :=
    World.ownsRow_lit w ((strs L).map Value.string).toArray L.length (Nat.le_refl _) (by unfold maxLen; omega) (by simp [hn])
  unfold OwnStrs OwnK
  rw [hn]
  exact h2
end Go.Proofs.YtdedkfbiookofaaGreatDoor
namespace Go.Proofs.YtdedkfbiookofaaGreatDoor
set_option maxRecDepth 100000
open Go.RowKit
theorem maxL_shape {w : World} (h : w.ShapedOpen Tryz.prog) : MaxL w :=
  cell_of_shapedOpen_int (zero := #[.int .i64 0]) (t := 3) (k := .i64) (g := 1) h (of_decide_eq_true (by kernel_rfl)) (by kernel_rfl) (by kernel_rfl) (by kernel_rfl) (by kernel_rfl) Tryz.underlying3
end Go.Proofs.YtdedkfbiookofaaGreatDoor
namespace Go.Proofs.YtdedkfbiookofaaGreatDoor
set_option maxRecDepth 100000
open Go.RowKit
def bondP (p : Int) : Int := if p = 0 then 2 else if p = 1 then 3 else if p = 2 then 4 else if p = 3 then 6 else 0
end Go.Proofs.YtdedkfbiookofaaGreatDoor
namespace Go.Proofs.YtdedkfbiookofaaGreatDoor
set_option maxRecDepth 100000
open Go.RowKit
theorem wpList_append_ints_n {w : World} {ops : Array Oper} {rest : List Oper} {o : Oper} {a : Act} {Q : Exit → Act → World → Prop} (hgd : o.guard = none) (s x : Operand)
    (ho : o.op = .call { callee := .builtin .append, args := #[s, x], argTypes := #[25, 25] })
    (B g cap n1 : Nat) (xs : List Int) (hn1 : xs.length = n1) (hown : Own w B g cap xs) (g2 o2 n2 c2 : Nat) (ys : List Int) (hn2 : ys.length = n2) (hc : Cells w g2 o2 ys)
    (hs : a.eval s = (Value.slice (some ⟨g, 0, none⟩) n1 cap)) (hx : a.eval x = (Value.slice (some ⟨g2, o2, none⟩) n2 c2)) (hlen : n1 + n2 ≤ 1099511627776)
    (h : ∀ g' cap' w', Own w' B g' cap' (xs ++ ys) → w.grownBy w' (some g) → (g' = g ∨ g' = w.heap.size) → wpList Tryz.prog ops Q rest (a.put o.dst (Value.slice (some ⟨g', 0, none⟩) (n1 + n2) cap')) w') :
    wpList Tryz.prog ops Q (o :: rest) a w := by
  subst hn1; subst hn2
  exact wpList_append_ints hgd s x ho B g cap xs hown g2 o2 c2 ys hc hs hx hlen h
end Go.Proofs.YtdedkfbiookofaaGreatDoor
namespace Go.Proofs.YtdedkfbiookofaaGreatDoor
set_option maxRecDepth 100000
open Go.RowKit Game
theorem cw_isNaN (x : Int) (w : World) : Calls Tryz.prog 217 #[.int .i64 x] w (Reads w (.bool false)) := by
  go_enter Tryz.func217, Tryz.ntmps217
  go_wp2
  go_ret
  exact ⟨ret_bool (by simp), 0, rfl⟩
def cmpI (x y : Int) : Int := if x < y then -1 else if y < x then 1 else 0
set_option maxHeartbeats 1000000 in
theorem cw_Compare (x y : Int) (w : World) : Calls Tryz.prog 190 #[.int .i64 x, .int .i64 y] w (Reads w (.int .i64 (cmpI x y))) := by
  have H : Hid (cmpI x y = if x < y then -1 else if y < x then 1 else 0) := rfl
  rcases Int.lt_trichotomy x y with h | h | h
  · have hv : cmpI x y = -1 := by rw [H.out, if_pos h]
    have Hv := Lib.hid hv; clear hv
    go_enter Tryz.func190, Tryz.ntmps190
    go_wp2_with fail
    refine (cw_isNaN x _).mono ?_
    rintro e w1 ⟨rfl, m1, rfl⟩
    go_wp2_with fail
    refine (cw_isNaN y _).mono ?_
    rintro e w2 ⟨rfl, m2, rfl⟩
    go_wp2_with fail
    go_ret
    exact ⟨ret_int Hv.out.symm, (by first | exact ⟨_, rfl⟩ | exact ⟨0, rfl⟩ | exact still2 _ _ _ | exact still3 _ _ _ _)⟩
  · have hv : cmpI x y = 0 := by rw [H.out, if_neg (by omega), if_neg (by omega)]
    have Hv := Lib.hid hv; clear hv
    have h1 : ¬ x < y := by omega
    have h2 : ¬ y < x := by omega
    have Hh := Lib.hid h; clear h
    go_enter Tryz.func190, Tryz.ntmps190
    go_wp2_with fail
    refine (cw_isNaN x _).mono ?_
    rintro e w1 ⟨rfl, m1, rfl⟩
    go_wp2_with fail
    refine (cw_isNaN y _).mono ?_
    rintro e w2 ⟨rfl, m2, rfl⟩
    go_wp2_with fail
    go_ret
    exact ⟨ret_int Hv.out.symm, (by first | exact ⟨_, rfl⟩ | exact ⟨0, rfl⟩ | exact still2 _ _ _ | exact still3 _ _ _ _)⟩
  · have hv : cmpI x y = 1 := by rw [H.out, if_neg (by omega), if_pos h]
    have Hv := Lib.hid hv; clear hv
    have h1 : ¬ x < y := by omega
    go_enter Tryz.func190, Tryz.ntmps190
    go_wp2_with fail
    refine (cw_isNaN x _).mono ?_
    rintro e w1 ⟨rfl, m1, rfl⟩
    go_wp2_with fail
    refine (cw_isNaN y _).mono ?_
    rintro e w2 ⟨rfl, m2, rfl⟩
    go_wp2_with fail
    go_ret
    exact ⟨ret_int Hv.out.symm, (by first | exact ⟨_, rfl⟩ | exact ⟨0, rfl⟩ | exact still2 _ _ _ | exact still3 _ _ _ _)⟩
def sliceCmp : List Int → List Int → Int
  | [], [] => 0
  | [], _ :: _ => -1
  | _ :: _, [] => 1
  | x :: a, y :: b => if x < y then -1 else if y < x then 1 else sliceCmp a b
theorem sliceCmp_same : ∀ {a b : List Int}, a.length = b.length → sliceCmp a b = lexCmp a b
  | [], [], _ => rfl
  | [], _ :: _, h => by simp at h
  | _ :: _, [], h => by simp at h
  | x :: a, y :: b, h => by simp only [sliceCmp, lexCmp]; rw [sliceCmp_same (by simpa using h)]
theorem sliceCmp_drop {a b : List Int} {k : Nat} (h1 : k < a.length) (h2 : k < b.length) : sliceCmp (a.drop k) (b.drop k) = if a[k] < b[k] then -1 else if b[k] < a[k] then 1 else sliceCmp (a.drop (k + 1)) (b.drop (k + 1)) := by
  have e1 : a.drop k = a[k] :: a.drop (k + 1) := List.drop_eq_getElem_cons h1
  have e2 : b.drop k = b[k] :: b.drop (k + 1) := List.drop_eq_getElem_cons h2
  rw [e1, e2]; rfl
set_option maxHeartbeats 2000000 in
theorem slices_Compare_any (g1 o1 n1 c1 g2 o2 n2 c2 : Nat) (xs ys : List Int) (w : World) (hn1 : xs.length = n1) (hn2 : ys.length = n2) (hx : xs.length ≤ 1099511627776)
    (hcx : Cells w g1 o1 xs) (hcy : Cells w g2 o2 ys) :
    Calls Tryz.prog 191 #[(Value.slice (some ⟨g1, o1, none⟩) n1 c1), (Value.slice (some ⟨g2, o2, none⟩) n2 c2)] w (Reads w (.int .i64 (sliceCmp xs ys))) := by
  subst hn1; subst hn2
  go_enter Tryz.func191, Tryz.ntmps191
  go_wp2
  go_loopw [5, 6, 7, 8, 11] (fun _ _ _ _ i wr => ∃ k : Nat, k ≤ xs.length ∧ k ≤ ys.length ∧ i = .int .i64 k ∧ Hid (sliceCmp (xs.drop k) (ys.drop k) = sliceCmp xs ys) ∧ ∃ m, wr = w.drewN m) (fun _ _ _ _ i _ => xs.length - (intOf i).toNat)
  case atStart => exact ⟨0, Nat.zero_le _, Nat.zero_le _, rfl, rfl, (by first | exact ⟨_, rfl⟩ | exact ⟨0, rfl⟩ | exact still2 _ _ _ | exact still3 _ _ _ _)⟩
  case round =>
    obtain ⟨k, hk, hk2, rfl, he, m, rfl⟩ := hrel
    by_cases hlt : k < xs.length
    · by_cases hlt2 : k < ys.length
      · have q1 := hcx k hlt
        have q2 := hcy k hlt2
        have hd := sliceCmp_drop hlt hlt2
        have e1 : xs.getD k 0 = xs[k] := by simp [List.getD, hlt]
        have e2 : ys.getD k 0 = ys[k] := by simp [List.getD, hlt2]
        rw [he.out] at hd
        rw [← e1, ← e2] at hd
        clear e1 e2
        generalize xs.getD k 0 = x at *
        generalize ys.getD k 0 = y at *
        have Hd := Lib.hid hd; clear hd
        have hcall := cw_Compare x y (w.drewN m)
        rcases Int.lt_trichotomy x y with h | h | h
        · have hc : cmpI x y = -1 := by unfold cmpI; rw [if_pos h]
          have hv : sliceCmp xs ys = -1 := by rw [Hd.out, if_pos h]
          rw [hc] at hcall
          have Hcall := Lib.hid hcall; have Hv := Lib.hid hv; have Hh := Lib.hid h
          clear hcall hv hc h
          go_wp2_with fail
          refine Hcall.out.mono ?_
          rintro e w2 ⟨rfl, m2, rfl⟩
          go_wp2_with fail
          go_ret
          exact ⟨ret_int Hv.out.symm, (by first | exact ⟨_, rfl⟩ | exact ⟨0, rfl⟩ | exact still2 _ _ _ | exact still3 _ _ _ _)⟩
        · have hc : cmpI x y = 0 := by unfold cmpI; rw [if_neg (by omega), if_neg (by omega)]
          have hv : sliceCmp (xs.drop (k + 1)) (ys.drop (k + 1)) = sliceCmp xs ys := by rw [Hd.out, if_neg (by omega), if_neg (by omega)]
          rw [hc] at hcall
          have Hcall := Lib.hid hcall; have Hv := Lib.hid hv; have Hh := Lib.hid h
          clear hcall hv hc h
          go_wp2_with fail
          refine Hcall.out.mono ?_
          rintro e w2 ⟨rfl, m2, rfl⟩
          go_wp2_with fail
          go_roundw
          case rel => exact ⟨k + 1, by omega, by omega, by go_num, Hv.out, (by first | exact ⟨_, rfl⟩ | exact ⟨0, rfl⟩ | exact still2 _ _ _ | exact still3 _ _ _ _)⟩
          case measure => simp [intOf]; omega
        · have hc : cmpI x y = 1 := by unfold cmpI; rw [if_neg (by omega), if_pos h]
          have hv : sliceCmp xs ys = 1 := by rw [Hd.out, if_neg (by omega), if_pos h]
          rw [hc] at hcall
          have Hcall := Lib.hid hcall; have Hv := Lib.hid hv; have Hh := Lib.hid h
          clear hcall hv hc h
          go_wp2_with fail
          refine Hcall.out.mono ?_
          rintro e w2 ⟨rfl, m2, rfl⟩
          go_wp2_with fail
          go_ret
          exact ⟨ret_int Hv.out.symm, (by first | exact ⟨_, rfl⟩ | exact ⟨0, rfl⟩ | exact still2 _ _ _ | exact still3 _ _ _ _)⟩
      · have hv : sliceCmp xs ys = 1 := by
          rw [← he.out, List.drop_eq_getElem_cons hlt, show ys.drop k = [] from List.drop_eq_nil_iff.2 (by omega)]; rfl
        have q1 := hcx k hlt
        have Hv := Lib.hid hv; clear hv
        go_wp2_with fail
        go_ret
        exact ⟨ret_int Hv.out.symm, (by first | exact ⟨_, rfl⟩ | exact ⟨0, rfl⟩ | exact still2 _ _ _ | exact still3 _ _ _ _)⟩
    · by_cases hlt2 : xs.length < ys.length
      · have hv : sliceCmp xs ys = -1 := by
          rw [← he.out, List.drop_eq_getElem_cons (show k < ys.length by omega), show xs.drop k = [] from List.drop_eq_nil_iff.2 (by omega)]; rfl
        have Hv := Lib.hid hv; clear hv
        go_wp2_with fail
        go_ret
        exact ⟨ret_int Hv.out.symm, (by first | exact ⟨_, rfl⟩ | exact ⟨0, rfl⟩ | exact still2 _ _ _ | exact still3 _ _ _ _)⟩
      · have hv : sliceCmp xs ys = 0 := by
          rw [← he.out, show ys.drop k = [] from List.drop_eq_nil_iff.2 (by omega), show xs.drop k = [] from List.drop_eq_nil_iff.2 (by omega)]; rfl
        have Hv := Lib.hid hv; clear hv
        go_wp2_with fail
        go_ret
        exact ⟨ret_int Hv.out.symm, (by first | exact ⟨_, rfl⟩ | exact ⟨0, rfl⟩ | exact still2 _ _ _ | exact still3 _ _ _ _)⟩
def orL : List Int → Int
  | [] => 0
  | x :: l => if x = 0 then orL l else x
theorem orL_drop {l : List Int} {k : Nat} (h : k < l.length) : orL (l.drop k) = if l[k] = 0 then orL (l.drop (k + 1)) else l[k] := by
  rw [List.drop_eq_getElem_cons h]; rfl
set_option maxHeartbeats 1000000 in
theorem cw_Or (g o n cp : Nat) (xs : List Int) (w : World) (hn : xs.length = n) (hx : xs.length ≤ 1048576) (hc : Cells w g o xs) : Calls Tryz.prog 189 #[(Value.slice (some ⟨g, o, none⟩) n cp)] w (Reads w (.int .i64 (orL xs))) := by
  subst hn
  go_enter Tryz.func189, Tryz.ntmps189
  go_wp2
  go_loopw [5, 8] (fun _ i wr => ∃ k : Nat, k ≤ xs.length ∧ i = .int .i64 k ∧ Hid (orL (xs.drop k) = orL xs) ∧ ∃ m, wr = w.drewN m) (fun _ i _ => xs.length - (intOf i).toNat)
  case atStart => exact ⟨0, Nat.zero_le _, rfl, rfl, (by first | exact ⟨_, rfl⟩ | exact ⟨0, rfl⟩ | exact still2 _ _ _ | exact still3 _ _ _ _)⟩
  case round =>
    obtain ⟨k, hk, rfl, he, m, rfl⟩ := hrel
    by_cases hlt : k < xs.length
    · have q1 := hc k hlt
      have hd := orL_drop hlt
      have e1 : xs.getD k 0 = xs[k] := by simp [List.getD, hlt]
      rw [he.out, ← e1] at hd
      clear e1
      generalize xs.getD k 0 = x at *
      by_cases h0 : x = 0
      · rw [if_pos h0] at hd
        have Hd := Lib.hid hd; clear hd
        subst h0
        go_wp2
        go_roundw
        case rel => exact ⟨k + 1, by omega, by go_num, Hd.out.symm, (by first | exact ⟨_, rfl⟩ | exact ⟨0, rfl⟩ | exact still2 _ _ _ | exact still3 _ _ _ _)⟩
        case measure => simp [intOf]; omega
      · rw [if_neg h0] at hd
        have Hd := Lib.hid hd; clear hd
        have hne : (x != 0) = true := by simpa using h0
        go_wp2
        go_ret
        exact ⟨ret_int Hd.out.symm, (by first | exact ⟨_, rfl⟩ | exact ⟨0, rfl⟩ | exact still2 _ _ _ | exact still3 _ _ _ _)⟩
    · have hv : orL xs = 0 := by rw [← he.out, List.drop_eq_nil_iff.2 (by omega)]; rfl
      have Hv := Lib.hid hv; clear hv
      go_wp2
      go_ret
      exact ⟨ret_int Hv.out.symm, (by first | exact ⟨_, rfl⟩ | exact ⟨0, rfl⟩ | exact still2 _ _ _ | exact still3 _ _ _ _)⟩
theorem or_words (xs ys : List Int) : orL [cmpI xs.length ys.length, sliceCmp xs ys] = wordCmp xs ys := by
  have hc : cmpI xs.length ys.length = if xs.length < ys.length then -1 else if ys.length < xs.length then 1 else 0 := by unfold cmpI; simp
  rw [hc]
  unfold wordCmp
  by_cases h1 : xs.length < ys.length
  · rw [if_pos h1, if_pos h1]; rfl
  · rw [if_neg h1, if_neg h1]
    by_cases h2 : ys.length < xs.length
    · rw [if_pos h2, if_pos h2]; rfl
    · rw [if_neg h2, if_neg h2, sliceCmp_same (by omega)]
      simp only [orL, if_true]
      split
      · rename_i h; exact h.symm
      · rfl
/-- the call gives a value; it may draw and lay blocks -/
def Lays (w : World) (v : Value) (e : Ending) (w' : World) : Prop := e = .returned v ∧ ∃ (o : Obj) (q : Nat), w' = (w.alloc o).drewN q
set_option maxHeartbeats 1000000 in
theorem impl_CompareWords_any (g1 o1 n1 c1 g2 o2 n2 c2 : Nat) (xs ys : List Int) (w : World) (hn1 : xs.length = n1) (hn2 : ys.length = n2) (hx : xs.length ≤ 1048576)
    (hcx : Cells w g1 o1 xs) (hcy : Cells w g2 o2 ys) :
    Calls Tryz.prog 167 #[(Value.slice (some ⟨g1, o1, none⟩) n1 c1), (Value.slice (some ⟨g2, o2, none⟩) n2 c2)] w (Lays w (.int .i64 (wordCmp xs ys))) := by
  subst hn1; subst hn2
  have Ho := Lib.hid (or_words xs ys)
  go_enter Tryz.func167, Tryz.ntmps167
  go_wp2_with fail
  refine (cw_Compare _ _ _).mono ?_
  rintro e w1 ⟨rfl, hs1⟩
  go_wp2_with fail
  refine (slices_Compare_any g1 o1 xs.length c1 g2 o2 ys.length c2 xs ys w1 rfl rfl (by omega) (hcx.still hs1) (hcy.still hs1)).mono ?_
  rintro e w2 ⟨rfl, hs2⟩
  generalize sliceCmp xs ys = z at *
  generalize cmpI (xs.length : Int) (ys.length : Int) = y at *
  have Hs1 := Lib.hid hs1; have Hs2 := Lib.hid hs2
  clear hs1 hs2
  obtain ⟨w3, hw3⟩ : ∃ w3, w3 = w2.alloc (.cells #[.int .i64 y, .int .i64 z] 3) := ⟨_, rfl⟩
  have hc3 : Cells w3 w2.heap.size 0 [y, z] := by
    obtain ⟨q1, q2⟩ : w3.cell? ⟨w2.heap.size, 0, none⟩ = some (.int .i64 y) ∧ w3.cell? ⟨w2.heap.size, 1, none⟩ = some (.int .i64 z) := by
      have hh : w3.heap[w2.heap.size]? = some (.cells #[.int .i64 y, .int .i64 z] 3 (0, 0)) := by rw [hw3]; exact heap_alloc_new _ _
      constructor <;> simp [World.cell?, hh]
    intro j hj
    have : j = 0 ∨ j = 1 := by simp at hj; omega
    rcases this with rfl | rfl
    · exact q1
    · exact q2
  have hcall := cw_Or w2.heap.size 0 2 2 [y, z] w3 rfl (by simp) hc3
  rw [hw3, Ho.out] at hcall
  have Hcall := Lib.hid hcall
  clear hcall hc3 hw3
  go_wp2_with fail
  refine Hcall.out.mono ?_
  rintro e w4 ⟨rfl, hs4⟩
  go_wp2_with fail
  go_ret
  refine ⟨rfl, ?_⟩
  obtain ⟨m1, e1⟩ := Hs1.out
  obtain ⟨m2, e2⟩ := Hs2.out
  obtain ⟨m4, e4⟩ := hs4
  refine ⟨.cells #[.int .i64 y, .int .i64 z] 3, m1 + m2 + m4, ?_⟩
  rw [e4, e2, e1, World.drewN_drewN]
  show ((w.alloc _).drewN (m1 + m2)).drewN m4 = _
  rw [World.drewN_drewN]
end Go.Proofs.YtdedkfbiookofaaGreatDoor
namespace Go.Proofs.YtdedkfbiookofaaGreatDoor
set_option maxRecDepth 100000
open Go.RowKit Game
def inTo (l : List (List Int)) (r : List Int) (k : Nat) : Prop := ∀ j, j < k → l.getD j [] ≠ r
theorem inTo_all {l : List (List Int)} {r : List Int} (h : inTo l r l.length) : decide (r ∈ l) = false := by
  apply decide_eq_false
  intro hm
  obtain ⟨t, ht, e⟩ := List.mem_iff_getElem.1 hm
  exact h t ht (by simp [List.getD, ht, e])
theorem inTo_some {l : List (List Int)} {r : List Int} {k : Nat} (hk : k < l.length) (h : l.getD k [] = r) : decide (r ∈ l) = true := by
  apply decide_eq_true
  rw [← h]; simp [List.getD, hk]
set_option maxHeartbeats 2000000 in
theorem spec_l7In_any (g o n cp g1 o1 n1 c1 : Nat) (l : List (List Int)) (r : List Int) (w : World) (hn : l.length = n) (hn1 : r.length = n1) (hl : l.length ≤ 1048576) (hrl : ∀ j, j < l.length → (l.getD j []).length ≤ 1048576)
    (hr : Rows2 w g o l) (hc1 : Cells w g1 o1 r) :
    Calls Tryz.prog 100 #[(Value.slice (some ⟨g, o, none⟩) n cp), (Value.slice (some ⟨g1, o1, none⟩) n1 c1)] w (Reads w (.bool (decide (r ∈ l)))) := by
  subst hn; subst hn1
  go_enter Tryz.func100, Tryz.ntmps100
  go_wp2
  go_loopw [5] (fun i wr => ∃ k : Nat, k ≤ l.length ∧ i = .int .i64 k ∧ Hid (inTo l r k) ∧ ∃ m, wr = w.drewN m) (fun i _ => l.length - (intOf i).toNat)
  case atStart => exact ⟨0, Nat.zero_le _, rfl, fun j hj => absurd hj (by omega), (by first | exact ⟨_, rfl⟩ | exact ⟨0, rfl⟩ | exact still2 _ _ _ | exact still3 _ _ _ _)⟩
  case round =>
    obtain ⟨k, hk, rfl, hin, m, rfl⟩ := hrel
    by_cases hlt : k < l.length
    · obtain ⟨gj, oj, cj, q1, q2, q3, q4⟩ := hr k hlt
      have hlk := hrl k hlt
      have HY : Hid (l.getD k [] ≠ r → inTo l r (k + 1)) := fun h j hj => by
        by_cases e : j = k
        · subst e; exact h
        · exact hin.out j (by omega)
      have HX : Hid (l.getD k [] = r → decide (r ∈ l) = true) := inTo_some hlt
      generalize l.getD k [] = x at *
      have hcall := spec_EqualWords_any gj oj x.length cj g1 o1 r.length c1 x r (w.drewN m) rfl rfl (by omega) q4 hc1
      by_cases e : x = r
      · have hd := HX.out e
        rw [decide_eq_true e] at hcall
        have Hd := Lib.hid hd; have He := Lib.hid e; have Hcall := Lib.hid hcall
        clear hd hcall e
        go_wp2_with fail
        refine Hcall.out.mono ?_
        rintro e w2 ⟨rfl, m2, rfl⟩
        go_wp2_with fail
        go_ret
        exact ⟨ret_bool Hd.out.symm, (by first | exact ⟨_, rfl⟩ | exact ⟨0, rfl⟩ | exact still2 _ _ _ | exact still3 _ _ _ _)⟩
      · have hd := HY.out e
        rw [decide_eq_false e] at hcall
        have Hd := Lib.hid hd; have He := Lib.hid e; have Hcall := Lib.hid hcall
        clear hd hcall e
        go_wp2_with fail
        refine Hcall.out.mono ?_
        rintro e w2 ⟨rfl, m2, rfl⟩
        go_wp2_with fail
        go_roundw
        case rel => exact ⟨k + 1, by omega, by go_num, Hd.out, (by first | exact ⟨_, rfl⟩ | exact ⟨0, rfl⟩ | exact still2 _ _ _ | exact still3 _ _ _ _)⟩
        case measure => simp [intOf]; omega
    · obtain rfl : k = l.length := by omega
      have hf := inTo_all hin.out
      have Hf := Lib.hid hf; clear hf
      go_wp2
      go_ret
      exact ⟨ret_bool Hf.out.symm, (by first | exact ⟨_, rfl⟩ | exact ⟨0, rfl⟩ | exact still2 _ _ _ | exact still3 _ _ _ _)⟩
end Go.Proofs.YtdedkfbiookofaaGreatDoor
namespace Go.Proofs.YtdedkfbiookofaaGreatDoor
set_option maxRecDepth 100000
open Go.RowKit
/-- the search: roots with their coroots -/
abbrev RPair := List Int × List Int
section
variable {c t : List (List Int)} {Q : List RPair} {k i : Nat}
end
end Go.Proofs.YtdedkfbiookofaaGreatDoor
namespace Go.Proofs.YtdedkfbiookofaaGreatDoor
set_option maxRecDepth 100000
open Go.RowKit Game
end Go.Proofs.YtdedkfbiookofaaGreatDoor
namespace Go.Proofs.YtdedkfbiookofaaGreatDoor
set_option maxRecDepth 100000
open Go.RowKit Game
def lettersB (n : Nat) (l : List Int) : Bool := l.all fun x => decide (0 ≤ x) && decide (x < (n : Int))
def isWordB (c : List (List Int)) (l : List Int) : Bool := decide (IsC c) && (decide (l.length ≤ 15) && lettersB c.length l)
theorem letters_out {n : Nat} {l : List Int} {k : Nat} (hk : k < l.length) (h : ¬ (0 ≤ l.getD k 0 ∧ l.getD k 0 < (n : Int))) : lettersB n l = false := by
  have e : l.getD k 0 = l[k] := by simp [List.getD, hk]
  rw [e] at h
  rw [← Bool.not_eq_true]
  intro ht
  have := List.all_eq_true.1 ht l[k] (List.getElem_mem hk)
  simp only [Bool.and_eq_true, decide_eq_true_eq] at this
  exact h this
theorem letters_in {n : Nat} {l : List Int} (h : ∀ k, k < l.length → 0 ≤ l.getD k 0 ∧ l.getD k 0 < (n : Int)) : lettersB n l = true := by
  refine List.all_eq_true.2 fun x hx => ?_
  obtain ⟨k, hk, rfl⟩ := List.getElem_of_mem hx
  have := h k hk
  have e : l.getD k 0 = l[k] := by simp [List.getD, hk]
  rw [e] at this
  simpa using this
theorem isWordB_of {c : List (List Int)} {l : List Int} (h : isWordB c l = true) : IsC c ∧ l.length ≤ 15 ∧ ∀ x ∈ l, 0 ≤ x ∧ x < (c.length : Int) := by
  simp only [isWordB, Bool.and_eq_true, decide_eq_true_eq] at h
  refine ⟨h.1, h.2.1, fun x hx => ?_⟩
  have := List.all_eq_true.1 h.2.2 x hx
  simpa using this
set_option maxHeartbeats 1000000 in
theorem impl_isWordOf_any (gc oc n cc g o m cp : Nat) (l : List Int) (w : World) (hm : l.length = m) (hl : l.length ≤ 1048576) (hc : Cells w g o l) :
    Calls Tryz.prog 90 #[(Value.slice (some ⟨gc, oc, none⟩) n cc), (Value.slice (some ⟨g, o, none⟩) m cp)] w (Reads w (.bool (lettersB n l))) := by
  subst hm
  go_enter Tryz.func90, Tryz.ntmps90
  go_wp2
  go_loopw [9] (fun i wr => ∃ k : Nat, k ≤ l.length ∧ i = .int .i64 k ∧ Hid (∀ j, j < k → 0 ≤ l.getD j 0 ∧ l.getD j 0 < (n : Int)) ∧ ∃ q, wr = w.drewN q) (fun i _ => l.length - (intOf i).toNat)
  case atStart => exact ⟨0, Nat.zero_le _, rfl, fun j h => absurd h (by omega), (by first | exact ⟨_, rfl⟩ | exact ⟨0, rfl⟩ | exact still2 _ _ _ | exact still3 _ _ _ _)⟩
  case round =>
    obtain ⟨k, hk, rfl, hp, q, rfl⟩ := hrel
    by_cases hlt : k < l.length
    · have c1 := hc k hlt
      have HA : Hid (¬ (0 ≤ l.getD k 0 ∧ l.getD k 0 < (n : Int)) → lettersB n l = false) := letters_out hlt
      have HB : Hid (0 ≤ l.getD k 0 ∧ l.getD k 0 < (n : Int) → ∀ j, j < k + 1 → 0 ≤ l.getD j 0 ∧ l.getD j 0 < (n : Int)) := fun h j hj => by
        by_cases e : j = k
        · subst e; exact h
        · exact hp.out j (by omega)
      generalize l.getD k 0 = x at *
      have hcall := impl_isPoint_any gc oc n cc x (w.drewN q)
      by_cases hx : 0 ≤ x ∧ x < (n : Int)
      · have hT : (decide (0 ≤ x) && decide (x < (n : Int))) = true := by simpa using hx
        rw [hT] at hcall
        have hb := HB.out hx
        have Hb := Lib.hid hb; have Hcall := Lib.hid hcall
        clear hb hcall hT HA HB hp hx
        go_wp2_with fail
        refine Hcall.out.mono ?_
        rintro e w2 ⟨rfl, q2, rfl⟩
        go_wp2_with fail
        go_roundw
        case rel => exact ⟨k + 1, by omega, by go_num, Hb.out, (by first | exact ⟨_, rfl⟩ | exact ⟨0, rfl⟩ | exact still2 _ _ _ | exact still3 _ _ _ _)⟩
        case measure => simp [intOf]; omega
      · have hT : (decide (0 ≤ x) && decide (x < (n : Int))) = false := by
          rw [← Bool.not_eq_true, Bool.and_eq_true, decide_eq_true_eq, decide_eq_true_eq]; exact hx
        rw [hT] at hcall
        have ha := HA.out hx
        have Ha := Lib.hid ha; have Hcall := Lib.hid hcall
        clear ha hcall hT HA HB hp hx
        go_wp2_with fail
        refine Hcall.out.mono ?_
        rintro e w2 ⟨rfl, q2, rfl⟩
        go_wp2_with fail
        go_ret
        exact ⟨ret_bool Ha.out.symm, (by first | exact ⟨_, rfl⟩ | exact ⟨0, rfl⟩ | exact still2 _ _ _ | exact still3 _ _ _ _)⟩
    · obtain rfl : k = l.length := by omega
      have Hf : Hid (lettersB n l = true) := letters_in hp.out
      clear hp
      go_wp2
      go_ret
      exact ⟨ret_bool Hf.out.symm, (by first | exact ⟨_, rfl⟩ | exact ⟨0, rfl⟩ | exact still2 _ _ _ | exact still3 _ _ _ _)⟩
set_option maxHeartbeats 1000000 in
theorem impl_IsWord_any (gc oc n cc g o m cp : Nat) (c : List (List Int)) (l : List Int) (w : World) (hn : c.length = n) (hm : l.length = m) (hx : c.length ≤ 1048576) (hrl : ∀ j, j < c.length → (c.getD j []).length ≤ 1048576) (hl : l.length ≤ 1048576) (hr : Rows2 w gc oc c) (hc : Cells w g o l) :
    Calls Tryz.prog 44 #[(Value.slice (some ⟨gc, oc, none⟩) n cc), (Value.slice (some ⟨g, o, none⟩) m cp)] w (Reads w (.bool (isWordB c l))) := by
  subst hn; subst hm
  have hcall := impl_IsCartan gc oc _ cc c w rfl (by omega) (fun j hj => by have := hrl j hj; omega) hr
  have hcall2 := fun W (hW : ∃ q, W = w.drewN q) => impl_isWordOf_any gc oc c.length cc g o _ cp l W rfl hl (hc.still hW)
  have Hcall2 := Lib.hid hcall2
  clear hr hc hcall2 hrl
  by_cases hC : IsC c
  · rw [decide_eq_true hC] at hcall
    have Hcall := Lib.hid hcall
    by_cases h15 : l.length ≤ 15
    · have hv : isWordB c l = lettersB c.length l := by unfold isWordB; rw [decide_eq_true hC, decide_eq_true h15]; simp
      rw [hv]
      have h15I : (l.length : Int) ≤ 15 := by omega
      clear hcall hv
      generalize lettersB c.length l = b at *
      go_enter Tryz.func44, Tryz.ntmps44
      go_wp2_with fail
      refine Hcall.out.mono ?_
      rintro e w2 ⟨rfl, hs2⟩
      have Hc3 := Lib.hid (Hcall2.out w2 hs2)
      go_wp2_with fail
      refine Hc3.out.mono ?_
      rintro e w3 ⟨rfl, hs3⟩
      have hs := still_trans hs2 hs3
      cases b
      all_goals
        go_wp2_with fail
        go_ret
        exact ⟨rfl, hs⟩
    · have hv : isWordB c l = false := by unfold isWordB; rw [decide_eq_false h15]; simp
      have Hv := Lib.hid hv
      have h15I : (15 : Int) < (l.length : Int) := by omega
      clear hcall hv h15
      go_enter Tryz.func44, Tryz.ntmps44
      go_wp2_with fail
      refine Hcall.out.mono ?_
      rintro e w2 ⟨rfl, hs2⟩
      go_wp2_with fail
      go_ret
      exact ⟨ret_bool Hv.out.symm, hs2⟩
  · rw [decide_eq_false hC] at hcall
    have Hcall := Lib.hid hcall
    have hv : isWordB c l = false := by unfold isWordB; rw [decide_eq_false hC]; simp
    have Hv := Lib.hid hv
    clear hcall hv
    go_enter Tryz.func44, Tryz.ntmps44
    go_wp2_with fail
    refine Hcall.out.mono ?_
    rintro e w2 ⟨rfl, hs2⟩
    go_wp2_with fail
    go_ret
    exact ⟨ret_bool Hv.out.symm, hs2⟩
set_option maxHeartbeats 1000000 in
theorem spec_IsWord_any (gc oc n cc g o m cp : Nat) (c : List (List Int)) (l : List Int) (w : World) (hn : c.length = n) (hm : l.length = m) (hx : c.length ≤ 1048576) (hrl : ∀ j, j < c.length → (c.getD j []).length ≤ 1048576) (hl : l.length ≤ 1048576) (hr : Rows2 w gc oc c) (hc : Cells w g o l) :
    Calls Tryz.prog 47 #[(Value.slice (some ⟨gc, oc, none⟩) n cc), (Value.slice (some ⟨g, o, none⟩) m cp)] w (Reads w (.bool (isWordB c l))) := by
  subst hn; subst hm
  have hcall2 := fun W (hW : ∃ q, W = w.drewN q) => spec_IsCartan gc oc _ cc c W rfl (by omega) (fun j hj => by have := hrl j hj; omega) (hr.still hW)
  have Hcall2 := Lib.hid hcall2
  clear hr hcall2 hrl
  go_enter Tryz.func47, Tryz.ntmps47
  go_wp2
  go_loopw [5] (fun i wr => ∃ k : Nat, k ≤ l.length ∧ i = .int .i64 k ∧ Hid (∀ j, j < k → 0 ≤ l.getD j 0 ∧ l.getD j 0 < (c.length : Int)) ∧ ∃ q, wr = w.drewN q) (fun i _ => l.length - (intOf i).toNat)
  case atStart => exact ⟨0, Nat.zero_le _, rfl, fun j h => absurd h (by omega), (by first | exact ⟨_, rfl⟩ | exact ⟨0, rfl⟩ | exact still2 _ _ _ | exact still3 _ _ _ _)⟩
  case round =>
    obtain ⟨k, hk, rfl, hp, q, rfl⟩ := hrel
    by_cases hlt : k < l.length
    · have c1 := hc k hlt
      have HA : Hid (¬ (0 ≤ l.getD k 0 ∧ l.getD k 0 < (c.length : Int)) → isWordB c l = false) := fun h => by unfold isWordB; rw [letters_out hlt h]; simp
      have HB : Hid (0 ≤ l.getD k 0 ∧ l.getD k 0 < (c.length : Int) → ∀ j, j < k + 1 → 0 ≤ l.getD j 0 ∧ l.getD j 0 < (c.length : Int)) := fun h j hj => by
        by_cases e : j = k
        · subst e; exact h
        · exact hp.out j (by omega)
      generalize l.getD k 0 = x at *
      have hcall := spec_l1In x 0 ((c.length : Int) - 1) (w.drewN q)
      by_cases hx : 0 ≤ x ∧ x < (c.length : Int)
      · have hT : (decide (0 ≤ x) && decide (x ≤ (c.length : Int) - 1)) = true := by simp only [Bool.and_eq_true, decide_eq_true_eq]; omega
        rw [hT] at hcall
        have hb := HB.out hx
        have Hb := Lib.hid hb; have Hcall := Lib.hid hcall
        clear hb hcall hT HA HB hp hx
        go_wp2_with fail
        refine Hcall.out.mono ?_
        rintro e w2 ⟨rfl, q2, rfl⟩
        go_wp2_with fail
        go_roundw
        case rel => exact ⟨k + 1, by omega, by go_num, Hb.out, (by first | exact ⟨_, rfl⟩ | exact ⟨0, rfl⟩ | exact still2 _ _ _ | exact still3 _ _ _ _)⟩
        case measure => simp [intOf]; omega
      · have hT : (decide (0 ≤ x) && decide (x ≤ (c.length : Int) - 1)) = false := by
          rw [← Bool.not_eq_true, Bool.and_eq_true, decide_eq_true_eq, decide_eq_true_eq]; omega
        rw [hT] at hcall
        have ha := HA.out hx
        have Ha := Lib.hid ha; have Hcall := Lib.hid hcall
        clear ha hcall hT HA HB hp hx
        go_wp2_with fail
        refine Hcall.out.mono ?_
        rintro e w2 ⟨rfl, q2, rfl⟩
        go_wp2_with fail
        go_ret
        exact ⟨ret_bool Ha.out.symm, (by first | exact ⟨_, rfl⟩ | exact ⟨0, rfl⟩ | exact still2 _ _ _ | exact still3 _ _ _ _)⟩
    · obtain rfl : k = l.length := by omega
      have hf : lettersB c.length l = true := letters_in hp.out
      have hcall := Hcall2.out (w.drewN q) (by first | exact ⟨_, rfl⟩ | exact ⟨0, rfl⟩ | exact still2 _ _ _ | exact still3 _ _ _ _)
      clear hp
      by_cases hC : IsC c
      · have hv : isWordB c l = decide (l.length ≤ 15) := by unfold isWordB; rw [decide_eq_true hC, hf]; simp
        rw [decide_eq_true hC] at hcall
        have Hcall := Lib.hid hcall; have Hv := Lib.hid hv
        clear hcall hv hf
        by_cases h15 : l.length ≤ 15
        · have h15I : (l.length : Int) ≤ 15 := by omega
          go_wp2_with fail
          refine Hcall.out.mono ?_
          rintro e w2 ⟨rfl, q2, rfl⟩
          go_wp2_with fail
          go_ret
          exact ⟨ret_bool (by rw [Hv.out, decide_eq_true h15]), (by first | exact ⟨_, rfl⟩ | exact ⟨0, rfl⟩ | exact still2 _ _ _ | exact still3 _ _ _ _)⟩
        · have h15I : (15 : Int) < (l.length : Int) := by omega
          go_wp2_with fail
          refine Hcall.out.mono ?_
          rintro e w2 ⟨rfl, q2, rfl⟩
          go_wp2_with fail
          go_ret
          exact ⟨ret_bool (by rw [Hv.out]; simp; omega), (by first | exact ⟨_, rfl⟩ | exact ⟨0, rfl⟩ | exact still2 _ _ _ | exact still3 _ _ _ _)⟩
      · have hv : isWordB c l = false := by unfold isWordB; rw [decide_eq_false hC]; simp
        rw [decide_eq_false hC] at hcall
        have Hcall := Lib.hid hcall; have Hv := Lib.hid hv
        clear hcall hv hf
        go_wp2_with fail
        refine Hcall.out.mono ?_
        rintro e w2 ⟨rfl, q2, rfl⟩
        go_wp2_with fail
        go_ret
        exact ⟨ret_bool Hv.out.symm, (by first | exact ⟨_, rfl⟩ | exact ⟨0, rfl⟩ | exact still2 _ _ _ | exact still3 _ _ _ _)⟩
end Go.Proofs.YtdedkfbiookofaaGreatDoor
namespace Go.Proofs.YtdedkfbiookofaaGreatDoor
set_option maxRecDepth 100000
open Go.RowKit
structure WordOk (c : List (List Int)) (v : List Int) : Prop where
  isC : IsC c
  few : v.length ≤ 15
  inr : ∀ k, k < v.length → 0 ≤ v.getD k 0 ∧ v.getD k 0 < (c.length : Int)
theorem wordOk_of {c : List (List Int)} {v : List Int} (h : isWordB c v = true) : WordOk c v := by
  obtain ⟨h1, h2, h3⟩ := isWordB_of h
  exact ⟨h1, h2, fun k hk => h3 _ (by simp [List.getD, hk])⟩
theorem WordOk.isWord {c : List (List Int)} {v : List Int} (h : WordOk c v) : isWordB c v = true := by
  unfold isWordB
  rw [decide_eq_true h.isC, decide_eq_true h.few, letters_in h.inr]
  rfl
end Go.Proofs.YtdedkfbiookofaaGreatDoor
namespace Go.Proofs.YtdedkfbiookofaaGreatDoor
set_option maxRecDepth 100000
def sumTo : Nat → (Nat → Int) → Int
  | 0, _ => 0
  | k + 1, g => sumTo k g + g k
def sgn (j : Nat) : Int := if j % 2 = 0 then 1 else -1
def cutAt (row : List Int) (j : Nat) : List Int := row.take j ++ row.drop (j + 1)
def minorOf (m : List (List Int)) (j : Nat) : List (List Int) := (m.drop 1).map fun row => cutAt row j
def det : Nat → List (List Int) → Int
  | 0, _ => 1
  | n + 1, m => sumTo (n + 1) fun j => sgn j * ent m 0 j * det n (minorOf m j)
/-- a square matrix of small numbers -/
def Sq (n : Nat) (m : List (List Int)) : Prop := m.length = n ∧ (∀ i, i < n → (m.getD i []).length = n) ∧ ∀ i j, -3 ≤ ent m i j ∧ ent m i j ≤ 3
def detB : Nat → Int
  | 0 => 1
  | n + 1 => (n + 1) * (3 * detB n)
theorem sumTo_bound (g : Nat → Int) (b : Int) (k : Nat) (h : ∀ j, j < k → -b ≤ g j ∧ g j ≤ b) : -(k * b) ≤ sumTo k g ∧ sumTo k g ≤ k * b := by
  induction k with
  | zero => simp [sumTo]
  | succ k ih =>
    have h1 := ih (fun j hj => h j (by omega))
    have h2 := h k (by omega)
    simp only [sumTo]
    have e : ((k + 1 : Nat) : Int) * b = k * b + b := by rw [Int.natCast_add, Int.add_mul]; simp
    rw [e]; omega
theorem cutAt_length {row : List Int} {j : Nat} (hj : j < row.length) : (cutAt row j).length = row.length - 1 := by
  simp [cutAt]; omega
theorem cutAt_getD (row : List Int) (j k : Nat) : (cutAt row j).getD k 0 = if k < j ∧ k < row.length then row.getD k 0 else row.getD (j + 1 + (k - min j row.length)) 0 := by
  unfold cutAt
  by_cases h : k < j ∧ k < row.length
  · rw [if_pos h]
    simp only [List.getD]
    rw [List.getElem?_append_left (by simp; omega), List.getElem?_take, if_pos h.1]
  · rw [if_neg h]
    simp only [List.getD]
    rw [List.getElem?_append_right (by simp; omega), List.getElem?_drop]
    simp only [List.length_take]
theorem minorOf_sq {n : Nat} {m : List (List Int)} {j : Nat} (h : Sq (n + 1) m) (hj : j < n + 1) : Sq n (minorOf m j) := by
  obtain ⟨h1, h2, h3⟩ := h
  have hg : ∀ i, (minorOf m j).getD i [] = cutAt (m.getD (i + 1) []) j := by
    intro i
    unfold minorOf
    simp only [List.getD, List.getElem?_map, List.getElem?_drop]
    rw [Nat.add_comm 1 i]
    cases m[i + 1]? with
    | none => simp [cutAt]
    | some r => simp
  refine ⟨by simp [minorOf, h1], fun i hi => ?_, fun i k => ?_⟩
  · rw [hg, cutAt_length (by rw [h2 _ (by omega)]; exact hj), h2 _ (by omega)]; omega
  · unfold ent
    rw [hg, cutAt_getD]
    split
    · exact h3 _ _
    · exact h3 _ _
theorem det_bound : ∀ (n : Nat) (m : List (List Int)), Sq n m → -(detB n) ≤ det n m ∧ det n m ≤ detB n := by
  intro n
  induction n with
  | zero => intro m _; simp [det, detB]
  | succ n ih =>
    intro m hm
    have hterm : ∀ j, j < n + 1 → -(3 * detB n) ≤ sgn j * ent m 0 j * det n (minorOf m j) ∧ sgn j * ent m 0 j * det n (minorOf m j) ≤ 3 * detB n := by
      intro j hj
      have h1 := ih _ (minorOf_sq hm hj)
      have h2 := hm.2.2 0 j
      generalize det n (minorOf m j) = d at *
      generalize ent m 0 j = x at *
      generalize detB n = D at *
      have hx : x = -3 ∨ x = -2 ∨ x = -1 ∨ x = 0 ∨ x = 1 ∨ x = 2 ∨ x = 3 := by omega
      unfold sgn
      split <;> rcases hx with rfl | rfl | rfl | rfl | rfl | rfl | rfl <;> omega
    have := sumTo_bound _ _ (n + 1) hterm
    simpa [det, detB] using this
end Go.Proofs.YtdedkfbiookofaaGreatDoor
namespace Go.Proofs.YtdedkfbiookofaaGreatDoor
set_option maxRecDepth 100000
open Go.RowKit
def setNat (m t : Nat) : List Nat := (List.range t).filter fun i => decide (m / 2 ^ i % 2 = 1)
def setTo (m t : Nat) : List Int := (setNat m t).map fun i : Nat => (i : Int)
def setL (m : Nat) : List Int := setTo m 4
theorem setNat_succ (m t : Nat) : setNat m (t + 1) = if m / 2 ^ t % 2 = 1 then setNat m t ++ [t] else setNat m t := by
  unfold setNat
  rw [List.range_succ, List.filter_append]
  split
  · rename_i h; simp [h]
  · rename_i h; simp [h]
theorem setTo_one {m t : Nat} (h : m / 2 ^ t % 2 = 1) : setTo m (t + 1) = setTo m t ++ [(t : Int)] := by
  unfold setTo; rw [setNat_succ, if_pos h]; simp
theorem setTo_zero {m t : Nat} (h : ¬ m / 2 ^ t % 2 = 1) : setTo m (t + 1) = setTo m t := by
  unfold setTo; rw [setNat_succ, if_neg h]
theorem setTo_len (m t : Nat) : (setTo m t).length ≤ t := by
  unfold setTo setNat
  rw [List.length_map]
  exact Nat.le_trans (List.length_filter_le _ _) (by simp)
theorem setTo_stop {m t : Nat} (h : m / 2 ^ t = 0) : ∀ k, setTo m (t + k) = setTo m t := by
  intro k
  induction k with
  | zero => rfl
  | succ k ih =>
    rw [← Nat.add_assoc, setTo_zero, ih]
    have : m / 2 ^ (t + k) = 0 := by
      rw [Nat.pow_add, ← Nat.div_div_eq_div_mul, h]; simp
    rw [this]; decide
theorem and1 {q : Nat} (hq : q ≤ 32) : bits BinOp.and IntKind.i64 (q : Int) 1 = ((q % 2 : Nat) : Int) := by
  rw [and_one _ (by omega)]
theorem and1_at (m t : Nat) (hm : m ≤ 15) : bits BinOp.and IntKind.i64 ((m : Int) / 2 ^ t) 1 = ((m / 2 ^ t % 2 : Nat) : Int) := by
  have e : ((m : Int) / 2 ^ t) = ((m / 2 ^ t : Nat) : Int) := by simp
  have h : m / 2 ^ t ≤ m := Nat.div_le_self _ _
  rw [e, and1 (by omega)]
set_option maxHeartbeats 1000000 in
theorem impl_setOf_any (m : Nat) (w : World) (hm : m ≤ 15) : Calls Tryz.prog 176 #[.int .i64 m] w (GotInts w (setL m)) := by
  go_enter Tryz.func176, Tryz.ntmps176
  go_wp2
  go_loopw [3, 4] (fun s i wr => ∃ t g' c' n' : Nat, t ≤ 4 ∧ i = .int .i64 t ∧ s = (Value.slice (some ⟨g', 0, none⟩) n' c') ∧ Hid ((setTo m t).length = n') ∧ Own wr w.heap.size g' c' (setTo m t) ∧ Below w.heap.size w wr) (fun _ i _ => 4 - (intOf i).toNat)
  case atStart => exact ⟨0, w.heap.size, 0, 0, by omega, rfl, rfl, rfl, Own.empty (w := w) (Nat.le_refl _), (Below.refl _ _).alloc (Nat.le_refl _) _⟩
  case round =>
    obtain ⟨t, g', c', n', ht, rfl, rfl, hn, ho, hb⟩ := hrel
    have hand := and1_at m t hm
    have hle := setTo_len m t
    rw [hn.out] at hle
    have eI : ((m : Int) / 2 ^ t) = ((m / 2 ^ t : Nat) : Int) := by simp
    by_cases hpos : 0 < m / 2 ^ t
    · have ht4 : t < 4 := by
        rcases Nat.lt_or_ge t 4 with h | h
        · exact h
        · obtain rfl : t = 4 := by omega
          have : m / 2 ^ 4 = 0 := by omega
          omega
      have Ht4 := Lib.hid ht4
      have hposI : (0 : Int) < (m : Int) / 2 ^ t := by rw [eI]; omega
      by_cases hbit : m / 2 ^ t % 2 = 1
      · rw [hbit] at hand
        have hS := setTo_one hbit
        have HS := Lib.hid hS
        clear hS eI hpos hbit
        go_wp2_with (at_builtin; refine wpList_append_int_n rfl _ _ rfl w.heap.size g' c' n' (setTo m t) (t : Int) hn.out ho rfl rfl (by omega) ?_)
        intro g2 c2 w2 ho2 hg2 _
        go_wp2
        go_roundw
        case rel =>
          rw [← HS.out] at ho2
          exact ⟨t + 1, g2, c2, n' + 1, by omega, by go_num, rfl, by show _ = _; rw [HS.out, List.length_append, hn.out]; rfl, ho2, hb.grown hg2 hb.size (by intro j hj; cases hj; exact ho.base)⟩
        case measure => simp [intOf]; omega
      · have hb0 : m / 2 ^ t % 2 = 0 := by omega
        rw [hb0] at hand
        have hS := setTo_zero hbit
        have HS := Lib.hid hS
        clear hS eI hpos hbit hb0
        go_wp2
        go_roundw
        case rel => exact ⟨t + 1, g', c', n', by have := Ht4.out; omega, by go_num, rfl, by show _ = _; rw [HS.out]; exact hn.out, by rw [HS.out]; exact ho, hb⟩
        case measure => have := Ht4.out; simp [intOf]; omega
    · have hz : m / 2 ^ t = 0 := Nat.eq_zero_of_not_pos hpos
      have hzI : (m : Int) / 2 ^ t = 0 := by rw [eI, hz]; rfl
      have hS : setL m = setTo m t := by
        have := setTo_stop hz (4 - t)
        have h4 : t + (4 - t) = 4 := by omega
        rw [h4] at this
        exact this
      have HS := Lib.hid hS
      clear hS eI hpos hz hand
      go_wp2
      go_ret
      have hSS := HS.out
      rw [hSS]
      exact GotInts.mk' g' c' hn.out ho hb
def pickRow (c : List (List Int)) (i : Int) (s : List Int) : List Int := s.map fun j => ent c i.toNat j.toNat
def pickL (c : List (List Int)) (s : List Int) : List (List Int) := s.map fun i => pickRow c i s
theorem contents_push (rs : List RowRef) (r : RowRef) : contents (rs ++ [r]) = contents rs ++ [r.2.2] := by simp [contents]
theorem take_map_succ {α : Type} (f : Int → α) (s : List Int) (t : Nat) (ht : t < s.length) : (s.take (t + 1)).map f = (s.take t).map f ++ [f (s.getD t 0)] := by
  rw [List.take_succ_eq_append_getElem ht, List.map_append]; simp [List.getD, ht]
set_option maxHeartbeats 2000000 in
theorem impl_picked_any (gc oc n cc g o m cs : Nat) (c : List (List Int)) (s : List Int) (w : World) (hn : c.length = n) (hm : s.length = m) (hs4 : s.length ≤ 4) (hrl : ∀ j, j < c.length → (c.getD j []).length = c.length)
    (hs : ∀ t, t < s.length → 0 ≤ s.getD t 0 ∧ s.getD t 0 < c.length) (hgc : gc < w.heap.size) (hg : g < w.heap.size) (hr : Rows2 w gc oc c) (hc : Cells w g o s) :
    Calls Tryz.prog 181 #[(Value.slice (some ⟨gc, oc, none⟩) n cc), (Value.slice (some ⟨g, o, none⟩) m cs)] w (GotRows w (pickL c s)) := by
  subst hn; subst hm
  go_enter Tryz.func181, Tryz.ntmps181
  go_wp2
  go_loopw [5, 14] (fun x i wr => ∃ (t g' c' : Nat) (rs : List RowRef), t ≤ s.length ∧ i = .int .i64 t ∧ x = (Value.slice (some ⟨g', 0, none⟩) t c') ∧ Hid (rs.length = t) ∧ Hid (contents rs = (s.take t).map fun i => pickRow c i s) ∧ OwnRows wr w.heap.size g' c' rs ∧ Below w.heap.size w wr) (fun _ i _ => s.length - (intOf i).toNat)
  case atStart => exact ⟨0, w.heap.size, 0, [], Nat.zero_le _, rfl, rfl, rfl, rfl, OwnRows.empty (Nat.le_refl _), (Below.refl _ _).alloc (Nat.le_refl _) _⟩
  case round =>
    obtain ⟨t, g', c', rs, ht, rfl, rfl, hrs, hcont, ho, hb⟩ := hrel
    by_cases hlt : t < s.length
    · have p1 := hc.below hb hg t hlt
      have hst := hs t hlt
      have htk := take_map_succ (fun i => pickRow c i s) s t hlt
      obtain ⟨iN, hiN⟩ : ∃ iN : Nat, s.getD t 0 = iN := ⟨(s.getD t 0).toNat, by omega⟩
      rw [hiN] at p1 hst htk
      have hic : iN < c.length := by omega
      have Htk := Lib.hid htk; clear htk hst hiN
      obtain ⟨wo, rfl⟩ : ∃ wo : World, wo = wr := ⟨_, rfl⟩
      go_wp2
      go_loopw [8, 21] (fun x i wr => ∃ k gr cr : Nat, k ≤ s.length ∧ i = .int .i64 k ∧ x = (Value.slice (some ⟨gr, 0, none⟩) k cr) ∧ Own wr wo.heap.size gr cr (pickRow c iN (s.take k)) ∧ Below wo.heap.size wo wr) (fun _ i _ => s.length - (intOf i).toNat)
      case atStart => exact ⟨0, wo.heap.size, 0, Nat.zero_le _, rfl, rfl, Own.empty (Nat.le_refl _), (Below.refl _ _).alloc (Nat.le_refl _) _⟩
      case round =>
        obtain ⟨k, gr, cr, hk, rfl, rfl, hor, hb2⟩ := hrel
        have hbb : Below w.heap.size w wr := hb.trans (hb2.mono hb.size)
        by_cases hltk : k < s.length
        · have p2 := hc.below hbb hg k hltk
          have hsk := hs k hltk
          have htk2 := take_map_succ (fun j => ent c iN j.toNat) s k hltk
          obtain ⟨jN, hjN⟩ : ∃ jN : Nat, s.getD k 0 = jN := ⟨(s.getD k 0).toNat, by omega⟩
          rw [hjN] at p2 hsk htk2
          rw [Int.toNat_natCast] at htk2
          have hjc : jN < c.length := by omega
          have Htk2 := Lib.hid htk2; clear htk2 hsk hjN p1
          obtain ⟨ga, oa, ca, q1, q2, q3, q4⟩ := hr.below hbb hgc iN hic
          have hri := hrl iN hic
          have e2 := q4 jN (by rw [hri]; exact hjc)
          rw [hri] at q1
          have hee : (c.getD iN []).getD jN 0 = ent c iN jN := rfl
          rw [hee] at e2
          have hpl : (pickRow c iN (s.take k)).length = k := by simp [pickRow]; omega
          have Hpl := Lib.hid hpl; clear hpl hri hee
          generalize ent c iN jN = y at *
          go_wp2_with (at_builtin; refine wpList_append_int_n rfl _ _ rfl wo.heap.size gr cr k (pickRow c iN (s.take k)) y Hpl.out hor rfl rfl (by omega) ?_)
          intro g3 c3 w3 ho3 hg3 _
          go_wp2
          go_roundw
          case rel =>
            refine ⟨k + 1, g3, c3, by omega, by go_num, rfl, ?_, hb2.grown hg3 hb2.size (by intro j hj; cases hj; exact hor.base)⟩
            have := Htk2.out
            have e : pickRow c iN (s.take (k + 1)) = pickRow c iN (s.take k) ++ [y] := this
            rw [e]; exact ho3
          case measure => simp [intOf]; omega
        · obtain rfl : k = s.length := by omega
          rw [List.take_of_length_le (Nat.le_refl _)] at hor
          have hpl : (pickRow c iN s).length = s.length := by simp [pickRow]
          have ho2 := ho.below (hb2.mono (Nat.le_refl _))
          have hne : ∀ r ∈ rs, r.1 ≠ gr := fun r hr => by have h1 := (ho.2.1 r hr).lt; have h2 := hor.base; omega
          have hor2 := hor.mono hb.size
          have hrow : rowVal (gr, cr, pickRow c iN s) = (Value.slice (some ⟨gr, 0, none⟩) s.length cr) := by unfold rowVal; rw [hpl]
          clear p1 hpl
          go_wp2_with (at_builtin; refine wpList_append_row rfl _ _ rfl w.heap.size g' c' t wr.heap.size rs (gr, cr, pickRow c iN s) _ hrs.out (by rw [hrow]) rfl ho2 hor2 hne rfl rfl (by omega) ?_)
          intro g4 c4 w4 ho4 hg4 _
          go_wp2
          go_roundw
          case rel =>
            refine ⟨t + 1, g4, c4, rs ++ [(gr, cr, pickRow c iN s)], by omega, by go_num, rfl, by show _ = _; rw [List.length_append, hrs.out]; rfl, ?_, ho4, hbb.grown hg4 hbb.size (by intro j hj; cases hj; exact ho.base)⟩
            show _ = _
            rw [contents_push, hcont.out, Htk.out]
          case measure => simp [intOf]; omega
    · obtain rfl : t = s.length := by omega
      have hc2 := hcont.out
      rw [List.take_of_length_le (Nat.le_refl _)] at hc2
      have Hc2 := Lib.hid hc2
      clear hc2
      go_wp2
      go_ret
      refine ⟨g', c', rs, ?_, Hc2.out, ho, hb⟩
      simp [pickL]
end Go.Proofs.YtdedkfbiookofaaGreatDoor
