/- Slices of bytes of the call's own; the program's FormatWord: contract. The laid table of powers of ten; the program's FormatInt. Lists of strings by their bytes; strings.Join with a blank; line: contracts. Strings put together, lists of strings that grow: steps of the walk. A polynomial, written: what both write. Plain law. A line on a pair of words: its words and the whole. Plain law. -/
import Derived.Test.YtdedkfbiookofaaGreatDoorM03
import Derived.Test.YtdedkfbiookofaaGreatDoorM02
import Derived.Lib.AppendIntMem
import Derived.Test.YtdedkfbiookofaaGreatDoorSlat
import Derived.Lib.SmallJoins
import Derived.Test.YtdedkfbiookofaaGreatDoorM00
import Derived.Lib.ItoaNum
import Derived.Lib.ItoaLen
namespace Go.Proofs.YtdedkfbiookofaaGreatDoor
set_option maxRecDepth 100000
open Go.RowKit
set_option maxRecDepth 100000
theorem infoU8 : (Tryz.prog.info? 5).map (fun i => (i.zero, i.size, i.bytes)) = some (some (.int .u8 0), 1, 1) := by kernel_rfl
def u8V (b : UInt8) : Value := .int .u8 (b.toNat : Int)
def OwnBytes (w : World) (B g cap : Nat) (xs : List UInt8) : Prop := OwnK w B 5 1 g cap xs.length (xs.map u8V)
section
variable {w w' : World} {B g cap : Nat} {xs : List UInt8}
theorem OwnBytes.empty (hB : B ≤ w.heap.size) : OwnBytes (w.alloc (.cells #[] 5)) B w.heap.size 0 [] := World.ownsRow_lit w #[] 0 hB (by decide) rfl
theorem OwnBytes.one (x : UInt8) (hB : B ≤ w.heap.size) : OwnBytes (w.alloc (.cells #[u8V x] 5)) B w.heap.size 1 [x] := World.ownsRow_lit w #[u8V x] 1 hB (by decide) rfl
theorem OwnBytes.cell (h : OwnBytes w B g cap xs) (j : Nat) (hj : j < xs.length) : w.cell? ⟨g, j, none⟩ = some (u8V xs[j]) := by
  rw [OwnK.cell h j (by rw [List.length_map]; exact hj)]
  simp
theorem wpList_append_byte {ops : Array Oper} {rest : List Oper} {o : Oper} {a : Act} {Q : Exit → Act → World → Prop} (hgd : o.guard = none) (s x : Operand)
    (ho : o.op = .call { callee := .builtin .append, args := #[s, x], argTypes := #[22, 22] })
    (B g cap n H : Nat) (xs : List UInt8) (z : UInt8) (w W : World) (hn : xs.length = n) (hW : W = w.alloc (.cells #[u8V z] 5)) (hH : w.heap.size = H) (hown : OwnBytes w B g cap xs)
    (hs : a.eval s = (Value.slice (some ⟨g, 0, none⟩) n cap)) (hx : a.eval x = (Value.slice (some ⟨H, 0, none⟩) 1 1)) (hlen : n + 1 ≤ 1048576)
    (h : ∀ g' cap' w', OwnBytes w' B g' cap' (xs ++ [z]) → w.grownBy w' (some g) → (g' = g ∨ w.heap.size < g') → wpList Tryz.prog ops Q rest (a.put o.dst (Value.slice (some ⟨g', 0, none⟩) (n + 1) cap')) w') :
    wpList Tryz.prog ops Q (o :: rest) a W := by
  subst hn; subst hW; subst hH
  have hnew := OwnBytes.one (w := w) (B := w.heap.size) z (Nat.le_refl _)
  refine wpList_append_K infoU8 Tryz.underlying22 rfl (by decide) (by decide) hgd s x ho B g cap xs.length (xs.map u8V) (OwnK.alloc hown _) w.heap.size 0 1 1 [u8V z] rfl ?_ ?_ hs hx hlen ?_
  · intro j u hu
    have hj : j = 0 := by have := (List.getElem?_eq_some_iff.1 hu).1; simp at this; exact this
    subst hj
    have := hnew.cell 0 (by simp)
    rw [Nat.zero_add, this]
    simpa using hu
  · intro u hu
    simp at hu
    subst hu
    rfl
  · intro g' cap' w' h2 h3 h4
    refine h g' cap' w' ?_ ⟨h3.os, h3.tape, h3.output, Nat.le_trans (by simp) h3.size, fun k hk hne => (h3.block k (by simp; omega) hne).trans (Below.heap_alloc _ _ _ hk)⟩ (h4.imp id (by simp; omega))
    unfold OwnBytes
    rw [List.map_append, List.length_append]
    exact h2
end
theorem letterV {i : Int} (h0 : 0 ≤ i) (h1 : i < 4) : Value.int .u8 (49 + i) = u8V (UInt8.ofNat (49 + i.toNat)) := by
  unfold u8V
  rw [UInt8.toNat_ofNat']
  congr 1
  omega
set_option maxHeartbeats 1000000 in
theorem impl_FormatWord_any (g o n cp : Nat) (l : List Int) (w : World) (hn : l.length = n) (hl : l.length ≤ 1048576) (hg : g < w.heap.size) (hc : Cells w g o l) :
    Calls Tryz.prog 75 #[(Value.slice (some ⟨g, o, none⟩) n cp)] w (Gives w (.string ⟨(wordL l).toArray⟩)) := by
  subst hn
  by_cases hz : l.length = 0
  · have e : wordL l = [101] := by unfold wordL; rw [if_pos hz]
    rw [e, hz]
    go_enter Tryz.func75, Tryz.ntmps75
    go_wp2
    go_ret
    exact ⟨rfl, Below.refl _ _⟩
  have hz2 : ((l.length : Int) == 0) = false := by simpa using hz
  generalize hR : wordL l = R
  have HR := Lib.hid hR
  have Hz := Lib.hid hz
  clear hR hz
  go_enter Tryz.func75, Tryz.ntmps75
  go_wp2
  go_loopw [3, 12] (fun ov kv wr => ∃ (k g2 c2 : Nat), k ≤ l.length ∧ kv = .int .i64 k ∧ ov = (Value.slice (some ⟨g2, 0, none⟩) k c2) ∧ (∀ j, j < k → 0 ≤ l.getD j 0 ∧ l.getD j 0 < 4) ∧ OwnBytes wr w.heap.size g2 c2 (digs (l.take k)) ∧ Below w.heap.size w wr) (fun _ kv _ => l.length - (intOf kv).toNat)
  case atStart => exact ⟨0, _, 0, Nat.zero_le _, rfl, rfl, by omega, OwnBytes.empty (Nat.le_refl _), (Below.refl _ _).alloc (Nat.le_refl _) _⟩
  case round =>
    obtain ⟨k, g2, c2, hk, rfl, rfl, hin, ho, hb⟩ := hrel
    by_cases hlt : k < l.length
    · have q1 := (hb.cell (p := ⟨g, o + k, none⟩) hg).trans (hc k hlt)
      by_cases hx0 : l.getD k 0 < 0
      · have hR : R = [] := by rw [← HR.out]; unfold wordL; rw [if_neg Hz.out, if_neg (not_inW hlt (by omega))]
        subst hR
        generalize l.getD k 0 = x at *
        clear hin HR
        go_wp2
        go_ret
        exact ⟨rfl, hb⟩
      by_cases hx4 : 4 ≤ l.getD k 0
      · have hR : R = [] := by rw [← HR.out]; unfold wordL; rw [if_neg Hz.out, if_neg (not_inW hlt (by omega))]
        subst hR
        generalize l.getD k 0 = x at *
        clear hin HR
        go_wp2
        go_ret
        exact ⟨rfl, hb⟩
      have HS := Lib.hid (digs_take hlt)
      have Htl : Hid ((digs (l.take k)).length = k) := Lib.hid (by unfold digs; rw [List.length_map, List.length_take]; omega)
      have Hnext : Hid (∀ j, j < k + 1 → 0 ≤ l.getD j 0 ∧ l.getD j 0 < 4) := Lib.hid fun j hj => by
        by_cases e : j = k
        · subst e; exact ⟨by omega, by omega⟩
        · exact hin j (by omega)
      have ew : wrap64 (49 + l.getD k 0) = 49 + l.getD k 0 := IntWalk.wrap64_in _ ⟨by omega, by omega⟩
      have em : (49 + l.getD k 0) % 256 = 49 + l.getD k 0 := by omega
      have HV := Lib.hid (letterV (i := l.getD k 0) (by omega) (by omega))
      generalize UInt8.ofNat (49 + (l.getD k 0).toNat) = bt at HS HV
      generalize l.getD k 0 = x at hx0 hx4 q1 ew em HV
      clear hin
      go_wp2_with (at_builtin; refine wpList_append_byte rfl _ _ rfl w.heap.size g2 c2 k wr.heap.size (digs (l.take k)) bt wr _ Htl.out (by rw [← HV.out]) rfl ho rfl rfl (by omega) ?_)
      intro g3 c3 w3 ho3 hg3 hor3
      have hb3 : Below w.heap.size w w3 := hb.grown hg3 hb.size (by intro t ht; cases ht; exact OwnK.base ho)
      rw [← HS.out] at ho3
      clear ho hg3
      go_wp2_with fail
      go_roundw
      case rel => exact ⟨k + 1, g3, c3, by omega, by go_num, rfl, Hnext.out, ho3, hb3⟩
      case measure => simp [intOf]; omega
    · obtain rfl : k = l.length := by omega
      rw [List.take_length] at ho
      have hR : R = digs l := by rw [← HR.out]; unfold wordL; rw [if_neg Hz.out, if_pos (inW_of_take hin)]
      subst hR
      have hdl : (digs l).length = l.length := by unfold digs; rw [List.length_map]
      have hcv := run_convert_bytes_back (P := Tryz.prog) wr 22 9 5 ⟨g2, 0, none⟩ c2 (digs l) Tryz.underlying22 Tryz.underlying5 Tryz.underlying9 (fun j hj => by
        have := ho.cell j hj
        rw [Addr.add_lit, Nat.zero_add]
        exact this)
      rw [hdl] at hcv
      clear hin HR ho
      go_wp2
      go_ret
      exact ⟨rfl, hb⟩
end Go.Proofs.YtdedkfbiookofaaGreatDoor
namespace Go.Proofs.YtdedkfbiookofaaGreatDoor
set_option maxRecDepth 100000
open Go.RowKit
open Go.Lib (join decDigits itoa)
set_option maxRecDepth 100000
/-- the laid table of powers of ten -/
def Tab (w : World) : Prop := Lib.TabIs Tryz.prog w "internal/strconv.uint64pow10" .u64 Lib.pow10Tab
theorem tabG : ∃ g, Program.globalNamed Tryz.prog "internal/strconv.uint64pow10" = some g := ⟨0, by kernel_rfl⟩
theorem Tab.below {w w' : World} (h : Tab w) (hb : Below w.heap.size w w') : Tab w' := by
  obtain ⟨g, hg⟩ := tabG
  exact Joins.tab_stays hg h hb (Nat.le_refl _)
end Go.Proofs.YtdedkfbiookofaaGreatDoor
namespace Go.Proofs.YtdedkfbiookofaaGreatDoor
set_option maxRecDepth 100000
open Go.RowKit
open Go.Lib (join decDigits itoa)
def strs (L : List (List UInt8)) : List ByteArray := L.map fun l => ⟨l.toArray⟩
theorem strs_data (L : List (List UInt8)) : (strs L).map (·.data.toList) = L := by
  unfold strs
  rw [List.map_map]
  have : ((fun x : ByteArray => x.data.toList) ∘ fun l : List UInt8 => ⟨l.toArray⟩) = id := by funext l; simp
  rw [this, List.map_id]
theorem joinS {w : World} {B g c n : Nat} {L : List (List UInt8)} (ho : OwnStrs w B g c (strs L)) (hn : L.length = n) (hN : n ≤ 1048576) (hl : (join L [32]).length ≤ 140737488355328) :
    Calls Tryz.prog 119 #[(Value.slice (some ⟨g, 0, none⟩) n c), .string ⟨#[32]⟩] w (Gives w (.string ⟨(join L [32]).toArray⟩)) := by
  subst hn
  have e44 : (⟨#[32]⟩ : ByteArray).data.toList = [32] := rfl
  have hsl : (strs L).length = L.length := by simp [strs]
  have hj := Any.strings_Join Tryz.lays156 Tryz.Builder_Extra_156 g 0 c (strs L) ⟨#[32]⟩ w ho.cell (OwnK.lt ho) (by omega) ho.capLe (by rw [strs_data, e44]; exact hl)
  change Calls Tryz.prog 119 _ _ _ at hj
  rw [strs_data, e44, hsl] at hj
  exact hj
theorem own_three (w : World) (B : Nat) (a b c : List UInt8) (hB : B ≤ w.heap.size) : OwnStrs (w.alloc (.cells #[.string ⟨a.toArray⟩, .string ⟨b.toArray⟩, .string ⟨c.toArray⟩] 9)) B w.heap.size 3 (strs [a, b, c]) :=
  World.ownsRow_lit w #[.string ⟨a.toArray⟩, .string ⟨b.toArray⟩, .string ⟨c.toArray⟩] 3 hB (by decide) rfl
theorem impl_line_any {w : World} {B g c n : Nat} {L : List (List UInt8)} (ho : OwnStrs w B g c (strs L)) (hn : L.length = n) (hN : n ≤ 1048576) (hl : (join L [32]).length ≤ 140737488355328) :
    Calls Tryz.prog 81 #[(Value.slice (some ⟨g, 0, none⟩) n c)] w (Gives w (.string ⟨(join L [32]).toArray⟩)) := by
  have hcall := joinS ho hn hN hl
  have Hcall := Lib.hid hcall
  clear hcall hl ho
  generalize (⟨(join L [32]).toArray⟩ : ByteArray) = s at *
  go_enter Tryz.func81, Tryz.ntmps81
  go_wp2_with fail
  refine Hcall.out.mono ?_
  rintro e w1 ⟨rfl, hb1⟩
  go_wp2_with fail
  go_ret
  exact ⟨rfl, hb1⟩
end Go.Proofs.YtdedkfbiookofaaGreatDoor
namespace Go.Proofs.YtdedkfbiookofaaGreatDoor
set_option maxRecDepth 100000
open Go.RowKit
open Go.Lib (join decDigits itoa)
theorem addEK (a : List UInt8) (s : Array UInt8) (hs : s = a.toArray) (b : List UInt8) (h : (a ++ b).length ≤ 9223372036854775807) : ∃ s2 : Array UInt8, s2 = (a ++ b).toArray ∧ ∀ W, (Op.stringOp .add ⟨s⟩ ⟨b.toArray⟩).run Tryz.prog W = .ok (.string ⟨s2⟩) W := by
  subst hs
  exact ⟨_, rfl, fun W => addS W a b _ rfl h⟩
section
variable {ops : Array Oper} {rest : List Oper} {o : Oper} {a : Act} {Q : Exit → Act → World → Prop}
theorem wpList_append_K1 (hgd : o.guard = none) (s x : Operand)
    (ho : o.op = .call { callee := .builtin .append, args := #[s, x], argTypes := #[75, 75] })
    (B g cap n H : Nat) (L : List (List UInt8)) (z : List UInt8) (w W : World) (hn : L.length = n) (hW : W = w.alloc (.cells #[.string ⟨z.toArray⟩] 9)) (hH : w.heap.size = H) (hown : OwnStrs w B g cap (strs L))
    (hs : a.eval s = (Value.slice (some ⟨g, 0, none⟩) n cap)) (hx : a.eval x = (Value.slice (some ⟨H, 0, none⟩) 1 1)) (hlen : n + 1 ≤ 1048576)
    (h : ∀ g' cap' w', OwnStrs w' B g' cap' (strs (L ++ [z])) → w.grownBy w' (some g) → wpList Tryz.prog ops Q rest (a.put o.dst (Value.slice (some ⟨g', 0, none⟩) (n + 1) cap')) w') :
    wpList Tryz.prog ops Q (o :: rest) a W :=
  wpList_append_str hgd s x ho B g cap n H (strs L) ⟨z.toArray⟩ w W (by simpa [strs] using hn) hW hH hown hs hx hlen (fun g' cap' w' h1 h2 _ => h g' cap' w' (by simpa [strs] using h1) h2)
theorem wpList_append_K2 (hgd : o.guard = none) (s x : Operand)
    (ho : o.op = .call { callee := .builtin .append, args := #[s, x], argTypes := #[75, 75] })
    (B g cap n H : Nat) (L : List (List UInt8)) (y z : List UInt8) (w W : World) (hn : L.length = n) (hW : W = w.alloc (.cells #[.string ⟨y.toArray⟩, .string ⟨z.toArray⟩] 9)) (hH : w.heap.size = H) (hown : OwnStrs w B g cap (strs L))
    (hs : a.eval s = (Value.slice (some ⟨g, 0, none⟩) n cap)) (hx : a.eval x = (Value.slice (some ⟨H, 0, none⟩) 2 2)) (hlen : n + 2 ≤ 1048576)
    (h : ∀ g' cap' w', OwnStrs w' B g' cap' (strs (L ++ [y, z])) → w.grownBy w' (some g) → wpList Tryz.prog ops Q rest (a.put o.dst (Value.slice (some ⟨g', 0, none⟩) (n + 2) cap')) w') :
    wpList Tryz.prog ops Q (o :: rest) a W := by
  subst hn; subst hW; subst hH
  have hnew : OwnStrs (w.alloc (.cells #[.string ⟨y.toArray⟩, .string ⟨z.toArray⟩] 9)) w.heap.size w.heap.size 2 [⟨y.toArray⟩, ⟨z.toArray⟩] := World.ownsRow_lit w #[.string ⟨y.toArray⟩, .string ⟨z.toArray⟩] 2 (Nat.le_refl _) (by decide) rfl
  have hls : (strs L).length = L.length := by simp [strs]
  refine wpList_append_K infoStr Tryz.underlying75 rfl (by decide) (by decide) hgd s x ho B g cap L.length ((strs L).map Value.string) (by rw [← hls]; exact OwnK.alloc hown _) w.heap.size 0 2 2 [.string ⟨y.toArray⟩, .string ⟨z.toArray⟩] rfl ?_ ?_ hs hx hlen ?_
  · intro j u hu
    have hj : j < 2 := by have := (List.getElem?_eq_some_iff.1 hu).1; simpa using this
    rcases (show j = 0 ∨ j = 1 by omega) with rfl | rfl
    · have := hnew.cell 0 _ rfl
      rw [this]; simpa using hu
    · have := hnew.cell 1 _ rfl
      rw [this]; simpa using hu
  · intro u hu
    simp at hu
    rcases hu with rfl | rfl <;> rfl
  · intro g' cap' w' h2 h3 h4
    refine h g' cap' w' ?_ ⟨h3.os, h3.tape, h3.output, Nat.le_trans (by simp) h3.size, fun k hk hne => (h3.block k (by simp; omega) hne).trans (Below.heap_alloc _ _ _ hk)⟩
    have e : strs (L ++ [y, z]) = strs L ++ [⟨y.toArray⟩, ⟨z.toArray⟩] := by simp [strs]
    unfold OwnStrs
    rw [e, List.map_append, List.length_append, hls]
    exact h2
end
end Go.Proofs.YtdedkfbiookofaaGreatDoor
namespace Go.Proofs.YtdedkfbiookofaaGreatDoor
set_option maxRecDepth 100000
open Go.RowKit
open Go.Lib (decDigits itoa)
/-- a power of q with a coefficient that is written d -/
def powT (d : List UInt8) (k : Nat) : List UInt8 := if k = 0 then d else (if d = [49] then [] else d) ++ (113 :: if 1 < k then 94 :: decDigits k else [])
/-- one term more -/
def termP (s : List UInt8) (x : Int) (k : Nat) : List UInt8 := if x = 0 then s else s ++ ((if x < 0 then [45] else if s = [] then [] else [43]) ++ powT (decDigits x.natAbs) k)
def polyT (p : List Int) : Nat → List UInt8
  | 0 => []
  | t + 1 => termP (polyT p t) (p.getD t 0) t
def polyS (p : List Int) : List UInt8 := if polyT p p.length = [] then [48] else polyT p p.length
theorem itoa_neg {x : Int} (h : x < 0) : itoa x = 45 :: decDigits x.natAbs := by unfold itoa; rw [if_pos h]
theorem itoa_pos {x : Int} (h : ¬ x < 0) : itoa x = decDigits x.natAbs := by
  unfold itoa; rw [if_neg h]; congr 1; omega
/-- '1' is how one is written, and nothing else -/
theorem dec_one {n : Nat} : decDigits n = [49] ↔ n = 1 := by
  constructor
  · intro h
    have hl := Go.Lib.decDigits_length n
    rw [h] at hl
    by_cases h1 : n < 10
    · rw [Go.Lib.decDigits_one h1] at h
      have : n = 0 ∨ n = 1 ∨ n = 2 ∨ n = 3 ∨ n = 4 ∨ n = 5 ∨ n = 6 ∨ n = 7 ∨ n = 8 ∨ n = 9 := by omega
      rcases this with rfl | rfl | rfl | rfl | rfl | rfl | rfl | rfl | rfl | rfl <;> first | rfl | (revert h; decide)
    · rw [decDigits, dif_neg h1] at h
      have h2 := congrArg List.length h
      have h3 := Go.Lib.decDigits_length (n / 10)
      have h4 : 0 < (decDigits (n / 10)).length := by
        rw [decDigits]; split <;> simp
      simp at h2
      rw [h2] at h4
      simp at h4
  · rintro rfl
    rw [Go.Lib.decDigits_one (by decide)]; rfl
theorem termP_zero {s : List UInt8} {x : Int} {k : Nat} (h : x = 0) : termP s x k = s := if_pos h
theorem termP_neg {s : List UInt8} {x : Int} {k : Nat} (h : x < 0) : termP s x k = s ++ (45 :: powT (decDigits x.natAbs) k) := by
  unfold termP; rw [if_neg (by omega), if_pos h]; rfl
theorem termP_first {x : Int} {k : Nat} (h : 0 < x) : termP [] x k = powT (decDigits x.natAbs) k := by
  unfold termP; rw [if_neg (by omega), if_neg (by omega), if_pos rfl]; rfl
theorem termP_more {s : List UInt8} {x : Int} {k : Nat} (h : 0 < x) (hs : s ≠ []) : termP s x k = s ++ (43 :: powT (decDigits x.natAbs) k) := by
  unfold termP; rw [if_neg (by omega), if_neg (by omega), if_neg hs]; rfl
theorem powT_neg {n k : Nat} (h : n ≠ 1) : powT (45 :: decDigits n) k = 45 :: powT (decDigits n) k := by
  have h1 : ¬ decDigits n = [49] := fun e => h (dec_one.1 e)
  by_cases hk : k = 0
  · subst hk; rfl
  · simp [powT, hk, h1]
theorem powT_0 (d : List UInt8) : powT d 0 = d := rfl
theorem powT_1 (d : List UInt8) : powT d 1 = (if d = [49] then [] else d) ++ [113] := rfl
theorem powT_2 {d : List UInt8} {k : Nat} (h : 1 < k) : powT d k = (if d = [49] then [] else d) ++ (113 :: 94 :: decDigits k) := by
  unfold powT; rw [if_neg (by omega), if_pos h]
theorem dec_len {x : Int} (h : -9223372036854775808 ≤ x ∧ x ≤ 9223372036854775807) : (decDigits x.natAbs).length ≤ 21 := by
  have := Lib.itoa_length_le x (by omega) (by omega)
  by_cases hx : x < 0
  · rw [itoa_neg hx, List.length_cons] at this; omega
  · rw [itoa_pos hx] at this; omega
theorem dec_lenN {k : Nat} (h : k ≤ 1000000) : (decDigits k).length ≤ 21 := dec_len (x := (k : Int)) (by omega)
theorem powT_len {d : List UInt8} {k : Nat} (hd : d.length ≤ 21) (hk : k ≤ 1000000) : (powT d k).length ≤ 44 := by
  have h1 := dec_lenN hk
  unfold powT
  split
  · omega
  · rw [List.length_append, List.length_cons]
    have h2 : (if d = [49] then [] else d).length ≤ 21 := by
      split
      · simp
      · exact hd
    have h3 : (if 1 < k then 94 :: decDigits k else [] : List UInt8).length ≤ 22 := by
      split
      · rw [List.length_cons]; omega
      · simp
    omega
theorem polyT_len {p : List Int} (h : ∀ i, -9223372036854775808 ≤ p.getD i 0 ∧ p.getD i 0 ≤ 9223372036854775807) : ∀ t, t ≤ 1000000 → (polyT p t).length ≤ 45 * t
  | 0, _ => by simp [polyT]
  | t + 1, ht => by
    have ih := polyT_len h t (by omega)
    have h1 := powT_len (dec_len (h t)) (k := t) (by omega)
    show (termP _ _ _).length ≤ _
    unfold termP
    split
    · omega
    · simp only [List.length_append]
      have : (if p.getD t 0 < 0 then [45] else if polyT p t = [] then [] else [43] : List UInt8).length ≤ 1 := by
        split
        · simp
        · split <;> simp
      omega
theorem polyS_len {p : List Int} (h : ∀ i, -9223372036854775808 ≤ p.getD i 0 ∧ p.getD i 0 ≤ 9223372036854775807) (hl : p.length ≤ 1000000) : (polyS p).length ≤ 45 * p.length + 1 := by
  have := polyT_len h p.length hl
  unfold polyS
  split
  · simp
  · omega
end Go.Proofs.YtdedkfbiookofaaGreatDoor
namespace Go.Proofs.YtdedkfbiookofaaGreatDoor
set_option maxRecDepth 100000
open Go.RowKit
open Go.Lib (join decDigits itoa)
def plL (A B : List UInt8) (sm wk bl rk pk : Bool) (R P : List UInt8) : List (List UInt8) :=
  [A, [97, 110, 100], B] ++ cond sm [[115, 97, 109, 101]] [] ++ cond wk [[112, 114, 101, 102, 105, 120]] [] ++ cond bl [[98, 101, 108, 111, 119]] [] ++ cond rk [[82], R] [] ++ cond pk [[80], P] []
def plS (A B : List UInt8) (sm wk bl rk pk : Bool) (R P : List UInt8) : List UInt8 :=
  A ++ [32, 97, 110, 100, 32] ++ B ++ cond sm [32, 115, 97, 109, 101] [] ++ cond wk [32, 112, 114, 101, 102, 105, 120] [] ++ cond bl [32, 98, 101, 108, 111, 119] [] ++ cond rk ([32, 82, 32] ++ R) [] ++ cond pk ([32, 80, 32] ++ P) []
theorem plS_eq (A B : List UInt8) (sm wk bl rk pk : Bool) (R P : List UInt8) : plS A B sm wk bl rk pk R P = join (plL A B sm wk bl rk pk R P) [32] := by
  cases sm <;> cases wk <;> cases bl <;> cases rk <;> cases pk <;> simp [plS, plL, join, List.intercalate, List.intersperse]
theorem plS_len {A B R P : List UInt8} (hA : A.length ≤ 100) (hB : B.length ≤ 100) (hR : R.length ≤ 100000) (hP : P.length ≤ 100000) (sm wk bl rk pk : Bool) : (plS A B sm wk bl rk pk R P).length ≤ 201000 := by
  cases sm <;> cases wk <;> cases bl <;> cases rk <;> cases pk <;> simp only [plS, cond_true, cond_false, List.length_append, List.length_cons, List.length_nil] <;> omega
end Go.Proofs.YtdedkfbiookofaaGreatDoor
