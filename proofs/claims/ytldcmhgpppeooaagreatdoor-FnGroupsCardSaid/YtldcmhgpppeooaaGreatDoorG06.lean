/- Slices of bytes of the call's own; the program's FormatWord: contract. The laid table of powers of ten; the program's FormatInt. Lists of strings by their bytes; strings.Join with a blank; line: contracts. strings.Split of what was joined by one byte: contract. The table of the longest slice, from the world's shape. Determinants of small matrices, sets of points, finite types: plain law. Sets of bits, picked matrices: contracts. -/
import Derived.Test.YtldcmhgpppeooaaGreatDoorG04
import Derived.Test.YtldcmhgpppeooaaGreatDoorG02
import Derived.Lib.AppendIntMem
import Derived.Test.YtldcmhgpppeooaaGreatDoorSlat
import Derived.Lib.SmallJoins
import Derived.Lib.SplitLaws
import Derived.Shelf.Vars
import Derived.Test.YtldcmhgpppeooaaGreatDoorG01
import Derived.Test.YtldcmhgpppeooaaGreatDoorG03
import Derived.Lib.RabinKarpLaws
namespace Go.Proofs.YtldcmhgpppeooaaGreatDoor
set_option maxRecDepth 100000
open Go.RowKit
set_option maxRecDepth 100000

theorem infoU8 : (Tryz.prog.info? 5).map (fun i => (i.zero, i.size, i.bytes)) = some (some (.int .u8 0), 1, 1) := by kernel_rfl
def u8V (b : UInt8) : Value := .int .u8 (b.toNat : Int)
def OwnBytes (w : World) (B g cap : Nat) (xs : List UInt8) : Prop := OwnK w B 5 1 g cap xs.length (xs.map u8V)
section
variable {w w' : World} {B g cap : Nat} {xs : List UInt8}
theorem OwnBytes.empty (hB : B ≤ w.heap.size) : OwnBytes (w.alloc (.cells #[] 5)) B w.heap.size 0 [] := World.ownsRow_lit w #[] 0 hB (by decide) rfl
theorem OwnBytes.one (x : UInt8) (hB : B ≤ w.heap.size) : OwnBytes (w.alloc (.cells #[u8V x] 5)) B w.heap.size 1 [x] := World.ownsRow_lit w #[u8V x] 1 hB (by decide) rfl
theorem OwnBytes.cell (h : OwnBytes w B g cap xs) (j : Nat) (hj : j < xs.length) : w.cell? ⟨g, j, none⟩ = some (u8V xs[j]) := by
  rw [OwnK.cell h j (by rw [List.length_map]; exact hj)]
  simp
theorem wpList_append_byte {ops : Array Oper} {rest : List Oper} {o : Oper} {a : Act} {Q : Exit → Act → World → Prop} (hgd : o.guard = none) (s x : Operand)
    (ho : o.op = .call { callee := .builtin .append, args := #[s, x], argTypes := #[22, 22] })
    (B g cap n H : Nat) (xs : List UInt8) (z : UInt8) (w W : World) (hn : xs.length = n) (hW : W = w.alloc (.cells #[u8V z] 5)) (hH : w.heap.size = H) (hown : OwnBytes w B g cap xs)
    (hs : a.eval s = (Value.slice (some ⟨g, 0, none⟩) n cap)) (hx : a.eval x = (Value.slice (some ⟨H, 0, none⟩) 1 1)) (hlen : n + 1 ≤ 1048576)
    (h : ∀ g' cap' w', OwnBytes w' B g' cap' (xs ++ [z]) → w.grownBy w' (some g) → (g' = g ∨ w.heap.size < g') → wpList Tryz.prog ops Q rest (a.put o.dst (Value.slice (some ⟨g', 0, none⟩) (n + 1) cap')) w') :
    wpList Tryz.prog ops Q (o :: rest) a W := by
  subst hn; subst hW; subst hH
  have hnew := OwnBytes.one (w := w) (B := w.heap.size) z (Nat.le_refl _)
  refine wpList_append_K infoU8 Tryz.underlying22 rfl (by decide) (by decide) hgd s x ho B g cap xs.length (xs.map u8V) (OwnK.alloc hown _) w.heap.size 0 1 1 [u8V z] rfl ?_ ?_ hs hx hlen ?_
  · intro j u hu
    have hj : j = 0 := by have := (List.getElem?_eq_some_iff.1 hu).1; simp at this; exact this
    subst hj
    have := hnew.cell 0 (by simp)
    rw [Nat.zero_add, this]
    simpa using hu
  · intro u hu
    simp at hu
    subst hu
    rfl
  · intro g' cap' w' h2 h3 h4
    refine h g' cap' w' ?_ ⟨h3.os, h3.tape, h3.output, Nat.le_trans (by simp) h3.size, fun k hk hne => (h3.block k (by simp; omega) hne).trans (Below.heap_alloc _ _ _ hk)⟩ (h4.imp id (by simp; omega))
    unfold OwnBytes
    rw [List.map_append, List.length_append]
    exact h2
end
theorem letterV {i : Int} (h0 : 0 ≤ i) (h1 : i < 4) : Value.int .u8 (49 + i) = u8V (UInt8.ofNat (49 + i.toNat)) := by
  unfold u8V
  rw [UInt8.toNat_ofNat']
  congr 1
  omega

set_option maxHeartbeats 1000000 in
theorem impl_FormatWord_any (g o n cp : Nat) (l : List Int) (w : World) (hn : l.length = n) (hl : l.length ≤ 1048576) (hg : g < w.heap.size) (hc : Cells w g o l) :
    Calls Tryz.prog 93 #[(Value.slice (some ⟨g, o, none⟩) n cp)] w (Gives w (.string ⟨(wordL l).toArray⟩)) := by
  subst hn
  by_cases hz : l.length = 0
  · have e : wordL l = [101] := by unfold wordL; rw [if_pos hz]
    rw [e, hz]
    go_enter Tryz.func93, Tryz.ntmps93
    go_wp2
    go_ret
    exact ⟨rfl, Below.refl _ _⟩
  have hz2 : ((l.length : Int) == 0) = false := by simpa using hz
  generalize hR : wordL l = R
  have HR := Lib.hid hR
  have Hz := Lib.hid hz
  clear hR hz
  go_enter Tryz.func93, Tryz.ntmps93
  go_wp2
  go_loopw [3, 12] (fun ov kv wr => ∃ (k g2 c2 : Nat), k ≤ l.length ∧ kv = .int .i64 k ∧ ov = (Value.slice (some ⟨g2, 0, none⟩) k c2) ∧ (∀ j, j < k → 0 ≤ l.getD j 0 ∧ l.getD j 0 < 4) ∧ OwnBytes wr w.heap.size g2 c2 (digs (l.take k)) ∧ Below w.heap.size w wr) (fun _ kv _ => l.length - (intOf kv).toNat)
  case atStart => exact ⟨0, _, 0, Nat.zero_le _, rfl, rfl, by omega, OwnBytes.empty (Nat.le_refl _), (Below.refl _ _).alloc (Nat.le_refl _) _⟩
  case round =>
    obtain ⟨k, g2, c2, hk, rfl, rfl, hin, ho, hb⟩ := hrel
    by_cases hlt : k < l.length
    · have q1 := (hb.cell (p := ⟨g, o + k, none⟩) hg).trans (hc k hlt)
      by_cases hx0 : l.getD k 0 < 0
      · have hR : R = [] := by rw [← HR.out]; unfold wordL; rw [if_neg Hz.out, if_neg (not_inW hlt (by omega))]
        subst hR
        generalize l.getD k 0 = x at *
        clear hin HR
        go_wp2
        go_ret
        exact ⟨rfl, hb⟩
      by_cases hx4 : 4 ≤ l.getD k 0
      · have hR : R = [] := by rw [← HR.out]; unfold wordL; rw [if_neg Hz.out, if_neg (not_inW hlt (by omega))]
        subst hR
        generalize l.getD k 0 = x at *
        clear hin HR
        go_wp2
        go_ret
        exact ⟨rfl, hb⟩
      have HS := Lib.hid (digs_take hlt)
      have Htl : Hid ((digs (l.take k)).length = k) := Lib.hid (by unfold digs; rw [List.length_map, List.length_take]; omega)
      have Hnext : Hid (∀ j, j < k + 1 → 0 ≤ l.getD j 0 ∧ l.getD j 0 < 4) := Lib.hid fun j hj => by
        by_cases e : j = k
        · subst e; exact ⟨by omega, by omega⟩
        · exact hin j (by omega)
      have ew : wrap64 (49 + l.getD k 0) = 49 + l.getD k 0 := IntWalk.wrap64_in _ ⟨by omega, by omega⟩
      have em : (49 + l.getD k 0) % 256 = 49 + l.getD k 0 := by omega
      have HV := Lib.hid (letterV (i := l.getD k 0) (by omega) (by omega))
      generalize UInt8.ofNat (49 + (l.getD k 0).toNat) = bt at HS HV
      generalize l.getD k 0 = x at hx0 hx4 q1 ew em HV
      clear hin
      go_wp2_with (at_builtin; refine wpList_append_byte rfl _ _ rfl w.heap.size g2 c2 k wr.heap.size (digs (l.take k)) bt wr _ Htl.out (by rw [← HV.out]) rfl ho rfl rfl (by omega) ?_)
      intro g3 c3 w3 ho3 hg3 hor3
      have hb3 : Below w.heap.size w w3 := hb.grown hg3 hb.size (by intro t ht; cases ht; exact OwnK.base ho)
      rw [← HS.out] at ho3
      clear ho hg3
      go_wp2_with fail
      go_roundw
      case rel => exact ⟨k + 1, g3, c3, by omega, by go_num, rfl, Hnext.out, ho3, hb3⟩
      case measure => simp [intOf]; omega
    · obtain rfl : k = l.length := by omega
      rw [List.take_length] at ho
      have hR : R = digs l := by rw [← HR.out]; unfold wordL; rw [if_neg Hz.out, if_pos (inW_of_take hin)]
      subst hR
      have hdl : (digs l).length = l.length := by unfold digs; rw [List.length_map]
      have hcv := run_convert_bytes_back (P := Tryz.prog) wr 22 9 5 ⟨g2, 0, none⟩ c2 (digs l) Tryz.underlying22 Tryz.underlying5 Tryz.underlying9 (fun j hj => by
        have := ho.cell j hj
        rw [Addr.add_lit, Nat.zero_add]
        exact this)
      rw [hdl] at hcv
      clear hin HR ho
      go_wp2
      go_ret
      exact ⟨rfl, hb⟩
end Go.Proofs.YtldcmhgpppeooaaGreatDoor
namespace Go.Proofs.YtldcmhgpppeooaaGreatDoor
set_option maxRecDepth 100000
open Go.RowKit
open Go.Lib (join decDigits itoa)
set_option maxRecDepth 100000

/-- the laid table of powers of ten -/
def Tab (w : World) : Prop := Lib.TabIs Tryz.prog w "internal/strconv.uint64pow10" .u64 Lib.pow10Tab
end Go.Proofs.YtldcmhgpppeooaaGreatDoor
namespace Go.Proofs.YtldcmhgpppeooaaGreatDoor
set_option maxRecDepth 100000
open Go.RowKit
open Go.Lib (join decDigits itoa)

def strs (L : List (List UInt8)) : List ByteArray := L.map fun l => ⟨l.toArray⟩
theorem strs_data (L : List (List UInt8)) : (strs L).map (·.data.toList) = L := by
  unfold strs
  rw [List.map_map]
  have : ((fun x : ByteArray => x.data.toList) ∘ fun l : List UInt8 => ⟨l.toArray⟩) = id := by funext l; simp
  rw [this, List.map_id]
theorem joinS {w : World} {B g c n : Nat} {L : List (List UInt8)} (ho : OwnStrs w B g c (strs L)) (hn : L.length = n) (hN : n ≤ 1048576) (hl : (join L [32]).length ≤ 140737488355328) :
    Calls Tryz.prog 139 #[(Value.slice (some ⟨g, 0, none⟩) n c), .string ⟨#[32]⟩] w (Gives w (.string ⟨(join L [32]).toArray⟩)) := by
  subst hn
  have e44 : (⟨#[32]⟩ : ByteArray).data.toList = [32] := rfl
  have hsl : (strs L).length = L.length := by simp [strs]
  have hj := Any.strings_Join Tryz.lays156 Tryz.Builder_Extra_156 g 0 c (strs L) ⟨#[32]⟩ w ho.cell (OwnK.lt ho) (by omega) ho.capLe (by rw [strs_data, e44]; exact hl)
  change Calls Tryz.prog 139 _ _ _ at hj
  rw [strs_data, e44, hsl] at hj
  exact hj
theorem step_append_strs {ops : Array Oper} {o : Oper} {a : Act} {K : Act → World → Prop} {Q : Exit → Act → World → Prop} {E : Prop} (hgd : o.guard = none) (s x : Operand)
    (ho : o.op = .call { callee := .builtin .append, args := #[s, x], argTypes := #[69, 69] })
    (B B2 g cap n g2 c2 k : Nat) (xs ys : List ByteArray) (W : World) (hn : xs.length = n) (hk : ys.length = k) (hown : OwnStrs W B g cap xs) (hnew : OwnStrs W B2 g2 c2 ys) (hs : a.eval s = (Value.slice (some ⟨g, 0, none⟩) n cap)) (hx : a.eval x = (Value.slice (some ⟨g2, 0, none⟩) k c2)) (hlen : n + k ≤ 1048576)
    (h : ∀ g' cap' w', OwnStrs w' B g' cap' (xs ++ ys) → W.grownBy w' (some g) → (g' = g ∨ g' = W.heap.size) → K (a.put o.dst (Value.slice (some ⟨g', 0, none⟩) (n + k) cap')) w') :
    if Region.wanted o (yielded ops a.tmps) = true then Oper.wp Tryz.prog o a W K Q else E := by
  subst hn; subst hk
  have hw : Region.wanted o (yielded ops a.tmps) = true := by simp [Region.wanted, hgd]
  rw [if_pos hw]
  obtain ⟨g', cap', w', hr, h1, h2, h3⟩ := run_append_K infoStr Tryz.underlying69 rfl (by decide) (by decide) hown g2 0 ys.length c2 (ys.map Value.string) (by simp) (fun j u hu => by
    have hj : j < ys.length := by have := (List.getElem?_eq_some_iff.1 hu).1; simpa using this
    have h := hnew.cell j ys[j] (by simp [hj])
    rw [h, ← hu]
    simp [hj]) (fun u hu => by obtain ⟨b, -, rfl⟩ := List.mem_map.1 hu; rfl) hlen o.type
  unfold Oper.wp execOp
  simp only [ho, resolve, invoke, builtin, Sem.run_bind, Sem.run_pure, Result.andThen_ok, List.map_toArray, List.map_cons, List.map_nil, hs, hx, hr]
  refine h g' cap' w' ?_ h2 h3
  unfold OwnStrs
  rw [List.map_append, List.length_append]
  exact h1
theorem OwnStrs.two {w w1 w2 : World} {B g cap : Nat} {xs : List ByteArray} (h : OwnStrs w B g cap xs) (h1 : Below w.heap.size w w1) (h2 : Below w1.heap.size w1 w2) : OwnStrs w2 B g cap xs := by
  have a : OwnStrs w1 B g cap xs := OwnK.below h h1 (OwnK.lt h)
  exact OwnK.below a h2 (OwnK.lt a)
theorem OwnStrs.over {w : World} {B g cap : Nat} {xs : List ByteArray} (h : OwnStrs w B g cap xs) (o : Obj) : OwnStrs (w.alloc o) B g cap xs := OwnK.alloc h o
theorem own_three (w : World) (B : Nat) (a b c : List UInt8) (hB : B ≤ w.heap.size) : OwnStrs (w.alloc (.cells #[.string ⟨a.toArray⟩, .string ⟨b.toArray⟩, .string ⟨c.toArray⟩] 9)) B w.heap.size 3 (strs [a, b, c]) :=
  World.ownsRow_lit w #[.string ⟨a.toArray⟩, .string ⟨b.toArray⟩, .string ⟨c.toArray⟩] 3 hB (by decide) rfl
end Go.Proofs.YtldcmhgpppeooaaGreatDoor
namespace Go.Proofs.YtldcmhgpppeooaaGreatDoor
set_option maxRecDepth 100000
open Go.RowKit
open Go.Lib (join)

theorem index_one (c : UInt8) (r : List UInt8) : ∀ x : List UInt8, c ∉ x → Lib.index (x ++ c :: r) [c] = (x.length : Int)
  | [], _ => by
    show Lib.index (c :: r) [c] = 0
    unfold Lib.index
    rw [if_pos (by simp [List.isPrefixOf])]
  | b :: x, h => by
    have hb : c ≠ b := fun e => h (by simp [e])
    have ih := index_one c r x fun hm => h (by simp [hm])
    show Lib.index (b :: (x ++ c :: r)) [c] = _
    unfold Lib.index
    rw [if_neg (by simp [List.isPrefixOf, hb]), ih]
    rw [if_neg (by rw [beq_iff_eq]; omega)]
    simp
theorem splitK_join (c : UInt8) : ∀ (L : List (List UInt8)), L ≠ [] → (∀ x ∈ L, c ∉ x) → Lib.splitK [c] 0 (Lib.count (join L [c]) [c]) (join L [c]) = L ∧ Lib.count (join L [c]) [c] + 1 = L.length
  | [], h, _ => absurd rfl h
  | [x], _, h => by
    have e : join [x] [c] = x := by simp [join, List.intercalate]
    rw [e]
    have e0 : Lib.count x [c] = 0 := by rw [Lib.count_one]; exact List.count_eq_zero.2 (h x (by simp))
    rw [e0]
    exact ⟨rfl, rfl⟩
  | x :: y :: L, _, h => by
    have ih := splitK_join c (y :: L) (by simp) fun z hz => h z (by simp [hz])
    have e : join (x :: y :: L) [c] = x ++ c :: join (y :: L) [c] := by simp [join, List.intercalate, List.intersperse]
    have hx := h x (by simp)
    have e0 : Lib.count (join (x :: y :: L) [c]) [c] = Lib.count (join (y :: L) [c]) [c] + 1 := by
      rw [Lib.count_one, Lib.count_one, e, List.count_append, List.count_cons, List.count_eq_zero.2 hx]
      simp
    rw [e0, e]
    have hi := index_one c (join (y :: L) [c]) x hx
    refine ⟨?_, by rw [ih.2]; rfl⟩
    unfold Lib.splitK
    rw [hi, if_neg (by rw [beq_iff_eq]; omega)]
    have ht : ((x.length : Int)).toNat = x.length := by omega
    rw [ht, Nat.add_zero, List.take_left']
    · congr 1
      rw [show x ++ c :: join (y :: L) [c] = (x ++ [c]) ++ join (y :: L) [c] by simp, List.drop_left' (by simp)]
      exact ih.1
    · rfl
theorem strs_of {l : List ByteArray} {L : List (List UInt8)} (h : l.map (·.data.toList) = L) : l = strs L := by
  subst h
  unfold strs
  rw [List.map_map]
  have : ((fun l : List UInt8 => (⟨l.toArray⟩ : ByteArray)) ∘ fun x : ByteArray => x.data.toList) = id := by funext x; rfl
  rw [this, List.map_id]

/-- the length that internal/bytealg was told -/
def MaxL (w : World) : Prop := ∃ m : Int, w.cell? ⟨0, 0, none⟩ = some (.int .i64 m)
theorem MaxL.below {w w' : World} (h : MaxL w) (hb : Below w.heap.size w w') : MaxL w' := by
  obtain ⟨m, hm⟩ := h
  exact ⟨m, (hb.cell (p := ⟨0, 0, none⟩) (World.block_lt_of_cell? w _ hm)).trans hm⟩
theorem split_ok (c : UInt8) (L : List (List UInt8)) (w : World) (hL : L ≠ []) (hLn : L.length ≤ 1048576) (hc : ∀ x ∈ L, c ∉ x) (hl : (join L [c]).length < 4294967281) (hm : MaxL w) :
    Calls Tryz.prog 136 #[.string ⟨(join L [c]).toArray⟩, .string ⟨#[c]⟩] w fun e w' => ∃ g, e = .returned (Value.slice (some ⟨g, 0, none⟩) L.length L.length) ∧ OwnStrs w' w.heap.size g L.length (strs L) ∧ Below w.heap.size w w' := by
  obtain ⟨m, hm⟩ := hm
  have h := Any.strings_Split Tryz.lays146 (by kernel_rfl) ⟨(join L [c]).toArray⟩ ⟨#[c]⟩ m w (by simpa [ByteArray.size] using hl) hm (by simp [ByteArray.size])
  change Calls Tryz.prog 136 _ _ _ at h
  have e1 : Lib.countB ⟨(join L [c]).toArray⟩ ⟨#[c]⟩ = Lib.count (join L [c]) [c] := rfl
  obtain ⟨s1, s2⟩ := splitK_join c L hL hc
  have e2 : Lib.splitB ⟨#[c]⟩ 0 (Lib.count (join L [c]) [c]) ⟨(join L [c]).toArray⟩ = strs L := by
    apply strs_of
    rw [Lib.splitB_data]
    exact s1
  rw [e1, s2, e2] at h
  refine h.mono ?_
  rintro e w' ⟨rfl, rfl⟩
  refine ⟨w.heap.size, rfl, ?_, (Below.refl _ _).alloc (Nat.le_refl _) _⟩
  have hn : (strs L).length = L.length := by simp [strs]
  have h2 : (w.alloc (.cells ((strs L).map Value.string).toArray 9)).ownsRow w.heap.size 9 1 (Value.slice (some ⟨w.heap.size, 0, none⟩) L.length L.length) L.length ((strs L).map Value.string).toArray.toList :=
    World.ownsRow_lit w ((strs L).map Value.string).toArray L.length (Nat.le_refl _) (by unfold maxLen; omega) (by simp [hn])
  unfold OwnStrs OwnK
  rw [hn]
  exact h2
end Go.Proofs.YtldcmhgpppeooaaGreatDoor
namespace Go.Proofs.YtldcmhgpppeooaaGreatDoor
set_option maxRecDepth 100000
open Go.RowKit

theorem maxL_shape {w : World} (h : w.ShapedOpen Tryz.prog) : MaxL w :=
  cell_of_shapedOpen_int (zero := #[.int .i64 0]) (t := 3) (k := .i64) (g := 0) h (of_decide_eq_true (by kernel_rfl)) (by kernel_rfl) (by kernel_rfl) (by kernel_rfl) (by kernel_rfl) Tryz.underlying3
end Go.Proofs.YtldcmhgpppeooaaGreatDoor
namespace Go.Proofs.YtldcmhgpppeooaaGreatDoor
set_option maxRecDepth 100000

def sumTo : Nat → (Nat → Int) → Int
  | 0, _ => 0
  | k + 1, g => sumTo k g + g k
def sgn (j : Nat) : Int := if j % 2 = 0 then 1 else -1
def cutAt (row : List Int) (j : Nat) : List Int := row.take j ++ row.drop (j + 1)
def minorOf (m : List (List Int)) (j : Nat) : List (List Int) := (m.drop 1).map fun row => cutAt row j
def det : Nat → List (List Int) → Int
  | 0, _ => 1
  | n + 1, m => sumTo (n + 1) fun j => sgn j * ent m 0 j * det n (minorOf m j)
/-- a square matrix of small numbers -/
def Sq (n : Nat) (m : List (List Int)) : Prop := m.length = n ∧ (∀ i, i < n → (m.getD i []).length = n) ∧ ∀ i j, -3 ≤ ent m i j ∧ ent m i j ≤ 3
def detB : Nat → Int
  | 0 => 1
  | n + 1 => (n + 1) * (3 * detB n)

theorem sumTo_bound (g : Nat → Int) (b : Int) (k : Nat) (h : ∀ j, j < k → -b ≤ g j ∧ g j ≤ b) : -(k * b) ≤ sumTo k g ∧ sumTo k g ≤ k * b := by
  induction k with
  | zero => simp [sumTo]
  | succ k ih =>
    have h1 := ih (fun j hj => h j (by omega))
    have h2 := h k (by omega)
    simp only [sumTo]
    have e : ((k + 1 : Nat) : Int) * b = k * b + b := by rw [Int.natCast_add, Int.add_mul]; simp
    rw [e]; omega
theorem cutAt_length {row : List Int} {j : Nat} (hj : j < row.length) : (cutAt row j).length = row.length - 1 := by
  simp [cutAt]; omega
theorem cutAt_getD (row : List Int) (j k : Nat) : (cutAt row j).getD k 0 = if k < j ∧ k < row.length then row.getD k 0 else row.getD (j + 1 + (k - min j row.length)) 0 := by
  unfold cutAt
  by_cases h : k < j ∧ k < row.length
  · rw [if_pos h]
    simp only [List.getD]
    rw [List.getElem?_append_left (by simp; omega), List.getElem?_take, if_pos h.1]
  · rw [if_neg h]
    simp only [List.getD]
    rw [List.getElem?_append_right (by simp; omega), List.getElem?_drop]
    simp only [List.length_take]
theorem minorOf_sq {n : Nat} {m : List (List Int)} {j : Nat} (h : Sq (n + 1) m) (hj : j < n + 1) : Sq n (minorOf m j) := by
  obtain ⟨h1, h2, h3⟩ := h
  have hg : ∀ i, (minorOf m j).getD i [] = cutAt (m.getD (i + 1) []) j := by
    intro i
    unfold minorOf
    simp only [List.getD, List.getElem?_map, List.getElem?_drop]
    rw [Nat.add_comm 1 i]
    cases m[i + 1]? with
    | none => simp [cutAt]
    | some r => simp
  refine ⟨by simp [minorOf, h1], fun i hi => ?_, fun i k => ?_⟩
  · rw [hg, cutAt_length (by rw [h2 _ (by omega)]; exact hj), h2 _ (by omega)]; omega
  · unfold ent
    rw [hg, cutAt_getD]
    split
    · exact h3 _ _
    · exact h3 _ _
theorem det_bound : ∀ (n : Nat) (m : List (List Int)), Sq n m → -(detB n) ≤ det n m ∧ det n m ≤ detB n := by
  intro n
  induction n with
  | zero => intro m _; simp [det, detB]
  | succ n ih =>
    intro m hm
    have hterm : ∀ j, j < n + 1 → -(3 * detB n) ≤ sgn j * ent m 0 j * det n (minorOf m j) ∧ sgn j * ent m 0 j * det n (minorOf m j) ≤ 3 * detB n := by
      intro j hj
      have h1 := ih _ (minorOf_sq hm hj)
      have h2 := hm.2.2 0 j
      generalize det n (minorOf m j) = d at *
      generalize ent m 0 j = x at *
      generalize detB n = D at *
      have hx : x = -3 ∨ x = -2 ∨ x = -1 ∨ x = 0 ∨ x = 1 ∨ x = 2 ∨ x = 3 := by omega
      unfold sgn
      split <;> rcases hx with rfl | rfl | rfl | rfl | rfl | rfl | rfl <;> omega
    have := sumTo_bound _ _ (n + 1) hterm
    simpa [det, detB] using this
end Go.Proofs.YtldcmhgpppeooaaGreatDoor
namespace Go.Proofs.YtldcmhgpppeooaaGreatDoor
set_option maxRecDepth 100000
open Go.RowKit

def setNat (m t : Nat) : List Nat := (List.range t).filter fun i => decide (m / 2 ^ i % 2 = 1)
def setTo (m t : Nat) : List Int := (setNat m t).map fun i : Nat => (i : Int)
def setL (m : Nat) : List Int := setTo m 4
theorem setNat_succ (m t : Nat) : setNat m (t + 1) = if m / 2 ^ t % 2 = 1 then setNat m t ++ [t] else setNat m t := by
  unfold setNat
  rw [List.range_succ, List.filter_append]
  split
  · rename_i h; simp [h]
  · rename_i h; simp [h]
theorem setTo_one {m t : Nat} (h : m / 2 ^ t % 2 = 1) : setTo m (t + 1) = setTo m t ++ [(t : Int)] := by
  unfold setTo; rw [setNat_succ, if_pos h]; simp
theorem setTo_zero {m t : Nat} (h : ¬ m / 2 ^ t % 2 = 1) : setTo m (t + 1) = setTo m t := by
  unfold setTo; rw [setNat_succ, if_neg h]
theorem setTo_len (m t : Nat) : (setTo m t).length ≤ t := by
  unfold setTo setNat
  rw [List.length_map]
  exact Nat.le_trans (List.length_filter_le _ _) (by simp)
theorem setTo_stop {m t : Nat} (h : m / 2 ^ t = 0) : ∀ k, setTo m (t + k) = setTo m t := by
  intro k
  induction k with
  | zero => rfl
  | succ k ih =>
    rw [← Nat.add_assoc, setTo_zero, ih]
    have : m / 2 ^ (t + k) = 0 := by
      rw [Nat.pow_add, ← Nat.div_div_eq_div_mul, h]; simp
    rw [this]; decide
theorem and1 {q : Nat} (hq : q ≤ 32) : bits BinOp.and IntKind.i64 (q : Int) 1 = ((q % 2 : Nat) : Int) := by
  rw [and_one _ (by omega)]
theorem and1_at (m t : Nat) (hm : m ≤ 15) : bits BinOp.and IntKind.i64 ((m : Int) / 2 ^ t) 1 = ((m / 2 ^ t % 2 : Nat) : Int) := by
  have e : ((m : Int) / 2 ^ t) = ((m / 2 ^ t : Nat) : Int) := by simp
  have h : m / 2 ^ t ≤ m := Nat.div_le_self _ _
  rw [e, and1 (by omega)]

set_option maxHeartbeats 1000000 in
theorem impl_setOf_any (m : Nat) (w : World) (hm : m ≤ 15) : Calls Tryz.prog 158 #[.int .i64 m] w (GotInts w (setL m)) := by
  go_enter Tryz.func158, Tryz.ntmps158
  go_wp2
  go_loopw [3, 4] (fun s i wr => ∃ t g' c' n' : Nat, t ≤ 4 ∧ i = .int .i64 t ∧ s = (Value.slice (some ⟨g', 0, none⟩) n' c') ∧ Hid ((setTo m t).length = n') ∧ Own wr w.heap.size g' c' (setTo m t) ∧ Below w.heap.size w wr) (fun _ i _ => 4 - (intOf i).toNat)
  case atStart => exact ⟨0, w.heap.size, 0, 0, by omega, rfl, rfl, rfl, Own.empty (w := w) (Nat.le_refl _), (Below.refl _ _).alloc (Nat.le_refl _) _⟩
  case round =>
    obtain ⟨t, g', c', n', ht, rfl, rfl, hn, ho, hb⟩ := hrel
    have hand := and1_at m t hm
    have hle := setTo_len m t
    rw [hn.out] at hle
    have eI : ((m : Int) / 2 ^ t) = ((m / 2 ^ t : Nat) : Int) := by simp
    by_cases hpos : 0 < m / 2 ^ t
    · have ht4 : t < 4 := by
        rcases Nat.lt_or_ge t 4 with h | h
        · exact h
        · obtain rfl : t = 4 := by omega
          have : m / 2 ^ 4 = 0 := by omega
          omega
      have Ht4 := Lib.hid ht4
      have hposI : (0 : Int) < (m : Int) / 2 ^ t := by rw [eI]; omega
      by_cases hbit : m / 2 ^ t % 2 = 1
      · rw [hbit] at hand
        have hS := setTo_one hbit
        have HS := Lib.hid hS
        clear hS eI hpos hbit
        go_wp2_with (at_builtin; refine wpList_append_int_n rfl _ _ rfl w.heap.size g' c' n' (setTo m t) (t : Int) hn.out ho rfl rfl (by omega) ?_)
        intro g2 c2 w2 ho2 hg2 _
        go_wp2
        go_roundw
        case rel =>
          rw [← HS.out] at ho2
          exact ⟨t + 1, g2, c2, n' + 1, by omega, by go_num, rfl, by show _ = _; rw [HS.out, List.length_append, hn.out]; rfl, ho2, hb.grown hg2 hb.size (by intro j hj; cases hj; exact ho.base)⟩
        case measure => simp [intOf]; omega
      · have hb0 : m / 2 ^ t % 2 = 0 := by omega
        rw [hb0] at hand
        have hS := setTo_zero hbit
        have HS := Lib.hid hS
        clear hS eI hpos hbit hb0
        go_wp2
        go_roundw
        case rel => exact ⟨t + 1, g', c', n', by have := Ht4.out; omega, by go_num, rfl, by show _ = _; rw [HS.out]; exact hn.out, by rw [HS.out]; exact ho, hb⟩
        case measure => have := Ht4.out; simp [intOf]; omega
    · have hz : m / 2 ^ t = 0 := Nat.eq_zero_of_not_pos hpos
      have hzI : (m : Int) / 2 ^ t = 0 := by rw [eI, hz]; rfl
      have hS : setL m = setTo m t := by
        have := setTo_stop hz (4 - t)
        have h4 : t + (4 - t) = 4 := by omega
        rw [h4] at this
        exact this
      have HS := Lib.hid hS
      clear hS eI hpos hz hand
      go_wp2
      go_ret
      have hSS := HS.out
      rw [hSS]
      exact GotInts.mk' g' c' hn.out ho hb

def pickRow (c : List (List Int)) (i : Int) (s : List Int) : List Int := s.map fun j => ent c i.toNat j.toNat
def pickL (c : List (List Int)) (s : List Int) : List (List Int) := s.map fun i => pickRow c i s
theorem contents_push (rs : List RowRef) (r : RowRef) : contents (rs ++ [r]) = contents rs ++ [r.2.2] := by simp [contents]
theorem take_map_succ {α : Type} (f : Int → α) (s : List Int) (t : Nat) (ht : t < s.length) : (s.take (t + 1)).map f = (s.take t).map f ++ [f (s.getD t 0)] := by
  rw [List.take_succ_eq_append_getElem ht, List.map_append]; simp [List.getD, ht]

set_option maxHeartbeats 2000000 in
theorem impl_picked_any (gc oc n cc g o m cs : Nat) (c : List (List Int)) (s : List Int) (w : World) (hn : c.length = n) (hm : s.length = m) (hs4 : s.length ≤ 4) (hrl : ∀ j, j < c.length → (c.getD j []).length = c.length)
    (hs : ∀ t, t < s.length → 0 ≤ s.getD t 0 ∧ s.getD t 0 < c.length) (hgc : gc < w.heap.size) (hg : g < w.heap.size) (hr : Rows2 w gc oc c) (hc : Cells w g o s) :
    Calls Tryz.prog 62 #[(Value.slice (some ⟨gc, oc, none⟩) n cc), (Value.slice (some ⟨g, o, none⟩) m cs)] w (GotRows w (pickL c s)) := by
  subst hn; subst hm
  go_enter Tryz.func62, Tryz.ntmps62
  go_wp2
  go_loopw [5, 14] (fun x i wr => ∃ (t g' c' : Nat) (rs : List RowRef), t ≤ s.length ∧ i = .int .i64 t ∧ x = (Value.slice (some ⟨g', 0, none⟩) t c') ∧ Hid (rs.length = t) ∧ Hid (contents rs = (s.take t).map fun i => pickRow c i s) ∧ OwnRows wr w.heap.size g' c' rs ∧ Below w.heap.size w wr) (fun _ i _ => s.length - (intOf i).toNat)
  case atStart => exact ⟨0, w.heap.size, 0, [], Nat.zero_le _, rfl, rfl, rfl, rfl, OwnRows.empty (Nat.le_refl _), (Below.refl _ _).alloc (Nat.le_refl _) _⟩
  case round =>
    obtain ⟨t, g', c', rs, ht, rfl, rfl, hrs, hcont, ho, hb⟩ := hrel
    by_cases hlt : t < s.length
    · have p1 := hc.below hb hg t hlt
      have hst := hs t hlt
      have htk := take_map_succ (fun i => pickRow c i s) s t hlt
      obtain ⟨iN, hiN⟩ : ∃ iN : Nat, s.getD t 0 = iN := ⟨(s.getD t 0).toNat, by omega⟩
      rw [hiN] at p1 hst htk
      have hic : iN < c.length := by omega
      have Htk := Lib.hid htk; clear htk hst hiN
      obtain ⟨wo, rfl⟩ : ∃ wo : World, wo = wr := ⟨_, rfl⟩
      go_wp2
      go_loopw [8, 21] (fun x i wr => ∃ k gr cr : Nat, k ≤ s.length ∧ i = .int .i64 k ∧ x = (Value.slice (some ⟨gr, 0, none⟩) k cr) ∧ Own wr wo.heap.size gr cr (pickRow c iN (s.take k)) ∧ Below wo.heap.size wo wr) (fun _ i _ => s.length - (intOf i).toNat)
      case atStart => exact ⟨0, wo.heap.size, 0, Nat.zero_le _, rfl, rfl, Own.empty (Nat.le_refl _), (Below.refl _ _).alloc (Nat.le_refl _) _⟩
      case round =>
        obtain ⟨k, gr, cr, hk, rfl, rfl, hor, hb2⟩ := hrel
        have hbb : Below w.heap.size w wr := hb.trans (hb2.mono hb.size)
        by_cases hltk : k < s.length
        · have p2 := hc.below hbb hg k hltk
          have hsk := hs k hltk
          have htk2 := take_map_succ (fun j => ent c iN j.toNat) s k hltk
          obtain ⟨jN, hjN⟩ : ∃ jN : Nat, s.getD k 0 = jN := ⟨(s.getD k 0).toNat, by omega⟩
          rw [hjN] at p2 hsk htk2
          rw [Int.toNat_natCast] at htk2
          have hjc : jN < c.length := by omega
          have Htk2 := Lib.hid htk2; clear htk2 hsk hjN p1
          obtain ⟨ga, oa, ca, q1, q2, q3, q4⟩ := hr.below hbb hgc iN hic
          have hri := hrl iN hic
          have e2 := q4 jN (by rw [hri]; exact hjc)
          rw [hri] at q1
          have hee : (c.getD iN []).getD jN 0 = ent c iN jN := rfl
          rw [hee] at e2
          have hpl : (pickRow c iN (s.take k)).length = k := by simp [pickRow]; omega
          have Hpl := Lib.hid hpl; clear hpl hri hee
          generalize ent c iN jN = y at *
          go_wp2_with (at_builtin; refine wpList_append_int_n rfl _ _ rfl wo.heap.size gr cr k (pickRow c iN (s.take k)) y Hpl.out hor rfl rfl (by omega) ?_)
          intro g3 c3 w3 ho3 hg3 _
          go_wp2
          go_roundw
          case rel =>
            refine ⟨k + 1, g3, c3, by omega, by go_num, rfl, ?_, hb2.grown hg3 hb2.size (by intro j hj; cases hj; exact hor.base)⟩
            have := Htk2.out
            have e : pickRow c iN (s.take (k + 1)) = pickRow c iN (s.take k) ++ [y] := this
            rw [e]; exact ho3
          case measure => simp [intOf]; omega
        · obtain rfl : k = s.length := by omega
          rw [List.take_of_length_le (Nat.le_refl _)] at hor
          have hpl : (pickRow c iN s).length = s.length := by simp [pickRow]
          have ho2 := ho.below (hb2.mono (Nat.le_refl _))
          have hne : ∀ r ∈ rs, r.1 ≠ gr := fun r hr => by have h1 := (ho.2.1 r hr).lt; have h2 := hor.base; omega
          have hor2 := hor.mono hb.size
          have hrow : rowVal (gr, cr, pickRow c iN s) = (Value.slice (some ⟨gr, 0, none⟩) s.length cr) := by unfold rowVal; rw [hpl]
          clear p1 hpl
          go_wp2_with (at_builtin; refine wpList_append_row rfl _ _ rfl w.heap.size g' c' t wr.heap.size rs (gr, cr, pickRow c iN s) _ hrs.out (by rw [hrow]) rfl ho2 hor2 hne rfl rfl (by omega) ?_)
          intro g4 c4 w4 ho4 hg4 _
          go_wp2
          go_roundw
          case rel =>
            refine ⟨t + 1, g4, c4, rs ++ [(gr, cr, pickRow c iN s)], by omega, by go_num, rfl, by show _ = _; rw [List.length_append, hrs.out]; rfl, ?_, ho4, hbb.grown hg4 hbb.size (by intro j hj; cases hj; exact ho.base)⟩
            show _ = _
            rw [contents_push, hcont.out, Htk.out]
          case measure => simp [intOf]; omega
    · obtain rfl : t = s.length := by omega
      have hc2 := hcont.out
      rw [List.take_of_length_le (Nat.le_refl _)] at hc2
      have Hc2 := Lib.hid hc2
      clear hc2
      go_wp2
      go_ret
      refine ⟨g', c', rs, ?_, Hc2.out, ho, hb⟩
      simp [pickL]
end Go.Proofs.YtldcmhgpppeooaaGreatDoor
