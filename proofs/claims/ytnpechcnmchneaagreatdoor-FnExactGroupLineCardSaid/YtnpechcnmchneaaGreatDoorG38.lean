/- Slices of bytes of the call's own; the program's FormatWord: contract. The laid table of powers of ten; the program's FormatInt. Lists of strings by their bytes; strings.Join with a blank; line: contracts. strings.Split of what was joined by one byte: contract. NeighboursOf: contracts. -/
import Derived.Test.YtnpechcnmchneaaGreatDoorG36
import Derived.Test.YtnpechcnmchneaaGreatDoorG03
import Derived.Lib.AppendIntMem
import Derived.Test.YtnpechcnmchneaaGreatDoorSlat
import Derived.Lib.SmallJoins
import Derived.Lib.SplitLaws
import Derived.Test.YtnpechcnmchneaaGreatDoorG11
import Derived.Test.YtnpechcnmchneaaGreatDoorG01
namespace Go.Proofs.YtnpechcnmchneaaGreatDoor
set_option maxRecDepth 100000
open Go.RowKit
set_option maxRecDepth 100000

theorem infoU8 : (Tryz.prog.info? 5).map (fun i => (i.zero, i.size, i.bytes)) = some (some (.int .u8 0), 1, 1) := by kernel_rfl
def u8V (b : UInt8) : Value := .int .u8 (b.toNat : Int)
def OwnBytes (w : World) (B g cap : Nat) (xs : List UInt8) : Prop := OwnK w B 5 1 g cap xs.length (xs.map u8V)
section
variable {w w' : World} {B g cap : Nat} {xs : List UInt8}
theorem OwnBytes.empty (hB : B ≤ w.heap.size) : OwnBytes (w.alloc (.cells #[] 5)) B w.heap.size 0 [] := World.ownsRow_lit w #[] 0 hB (by decide) rfl
theorem OwnBytes.one (x : UInt8) (hB : B ≤ w.heap.size) : OwnBytes (w.alloc (.cells #[u8V x] 5)) B w.heap.size 1 [x] := World.ownsRow_lit w #[u8V x] 1 hB (by decide) rfl
theorem OwnBytes.cell (h : OwnBytes w B g cap xs) (j : Nat) (hj : j < xs.length) : w.cell? ⟨g, j, none⟩ = some (u8V xs[j]) := by
  rw [OwnK.cell h j (by rw [List.length_map]; exact hj)]
  simp
theorem wpList_append_byte {ops : Array Oper} {rest : List Oper} {o : Oper} {a : Act} {Q : Exit → Act → World → Prop} (hgd : o.guard = none) (s x : Operand)
    (ho : o.op = .call { callee := .builtin .append, args := #[s, x], argTypes := #[54, 54] })
    (B g cap n H : Nat) (xs : List UInt8) (z : UInt8) (w W : World) (hn : xs.length = n) (hW : W = w.alloc (.cells #[u8V z] 5)) (hH : w.heap.size = H) (hown : OwnBytes w B g cap xs)
    (hs : a.eval s = (Value.slice (some ⟨g, 0, none⟩) n cap)) (hx : a.eval x = (Value.slice (some ⟨H, 0, none⟩) 1 1)) (hlen : n + 1 ≤ 1048576)
    (h : ∀ g' cap' w', OwnBytes w' B g' cap' (xs ++ [z]) → w.grownBy w' (some g) → (g' = g ∨ w.heap.size < g') → wpList Tryz.prog ops Q rest (a.put o.dst (Value.slice (some ⟨g', 0, none⟩) (n + 1) cap')) w') :
    wpList Tryz.prog ops Q (o :: rest) a W := by
  subst hn; subst hW; subst hH
  have hnew := OwnBytes.one (w := w) (B := w.heap.size) z (Nat.le_refl _)
  refine wpList_append_K infoU8 Tryz.underlying54 rfl (by decide) (by decide) hgd s x ho B g cap xs.length (xs.map u8V) (OwnK.alloc hown _) w.heap.size 0 1 1 [u8V z] rfl ?_ ?_ hs hx hlen ?_
  · intro j u hu
    have hj : j = 0 := by have := (List.getElem?_eq_some_iff.1 hu).1; simp at this; exact this
    subst hj
    have := hnew.cell 0 (by simp)
    rw [Nat.zero_add, this]
    simpa using hu
  · intro u hu
    simp at hu
    subst hu
    rfl
  · intro g' cap' w' h2 h3 h4
    refine h g' cap' w' ?_ ⟨h3.os, h3.tape, h3.output, Nat.le_trans (by simp) h3.size, fun k hk hne => (h3.block k (by simp; omega) hne).trans (Below.heap_alloc _ _ _ hk)⟩ (h4.imp id (by simp; omega))
    unfold OwnBytes
    rw [List.map_append, List.length_append]
    exact h2
end
theorem letterV {i : Int} (h0 : 0 ≤ i) (h1 : i < 4) : Value.int .u8 (49 + i) = u8V (UInt8.ofNat (49 + i.toNat)) := by
  unfold u8V
  rw [UInt8.toNat_ofNat']
  congr 1
  omega

end Go.Proofs.YtnpechcnmchneaaGreatDoor
namespace Go.Proofs.YtnpechcnmchneaaGreatDoor
set_option maxRecDepth 100000
open Go.RowKit
open Go.Lib (join decDigits itoa)
set_option maxRecDepth 100000

/-- the laid table of powers of ten -/
def Tab (w : World) : Prop := Lib.TabIs Tryz.prog w "internal/strconv.uint64pow10" .u64 Lib.pow10Tab
theorem tabG : ∃ g, Program.globalNamed Tryz.prog "internal/strconv.uint64pow10" = some g := by
  have h : (Program.globalNamed Tryz.prog "internal/strconv.uint64pow10").isSome = true := by kernel_rfl
  exact Option.isSome_iff_exists.1 h
theorem Tab.below {w w' : World} (h : Tab w) (hb : Below w.heap.size w w') : Tab w' := by
  obtain ⟨g, hg⟩ := tabG
  exact Joins.tab_stays hg h hb (Nat.le_refl _)

theorem impl_FormatInt_any (n : Int) (hw : (Lit.int .i64 n).wf = true) (w : World) (ht : Tab w) : Calls Tryz.prog 31 #[.int .i64 n] w (Gives w (.string ⟨(itoa n).toArray⟩)) := by
  have hb := wf_bounds hw
  have hcall := Any.strconv_Itoa Tryz.laysM171 n hb.1 hb.2 w ht
  change Calls Tryz.prog 79 _ _ _ at hcall
  have Hcall := Lib.hid hcall
  clear hcall hw hb
  generalize (⟨(itoa n).toArray⟩ : ByteArray) = s at *
  go_enter Tryz.func31, Tryz.ntmps31
  go_wp2_with fail
  refine Hcall.out.mono ?_
  rintro e w1 ⟨rfl, k, os, rfl⟩
  have hb := Lib.below_grow w.heap.size w (Nat.le_refl _) k os
  go_wp2_with fail
  go_ret
  exact ⟨rfl, hb⟩
end Go.Proofs.YtnpechcnmchneaaGreatDoor
namespace Go.Proofs.YtnpechcnmchneaaGreatDoor
set_option maxRecDepth 100000
open Go.RowKit
open Go.Lib (join decDigits itoa)

def strs (L : List (List UInt8)) : List ByteArray := L.map fun l => ⟨l.toArray⟩
theorem strs_data (L : List (List UInt8)) : (strs L).map (·.data.toList) = L := by
  unfold strs
  rw [List.map_map]
  have : ((fun x : ByteArray => x.data.toList) ∘ fun l : List UInt8 => ⟨l.toArray⟩) = id := by funext l; simp
  rw [this, List.map_id]
theorem joinS {w : World} {B g c n : Nat} {L : List (List UInt8)} (ho : OwnStrs w B g c (strs L)) (hn : L.length = n) (hN : n ≤ 1048576) (hl : (join L [32]).length ≤ 140737488355328) :
    Calls Tryz.prog 75 #[(Value.slice (some ⟨g, 0, none⟩) n c), .string ⟨#[32]⟩] w (Gives w (.string ⟨(join L [32]).toArray⟩)) := by
  subst hn
  have e44 : (⟨#[32]⟩ : ByteArray).data.toList = [32] := rfl
  have hsl : (strs L).length = L.length := by simp [strs]
  have hj := Any.strings_Join Tryz.lays156 Tryz.Builder_Extra_156 g 0 c (strs L) ⟨#[32]⟩ w ho.cell (OwnK.lt ho) (by omega) ho.capLe (by rw [strs_data, e44]; exact hl)
  change Calls Tryz.prog 75 _ _ _ at hj
  rw [strs_data, e44, hsl] at hj
  exact hj
theorem step_append_strs {ops : Array Oper} {o : Oper} {a : Act} {K : Act → World → Prop} {Q : Exit → Act → World → Prop} {E : Prop} (hgd : o.guard = none) (s x : Operand)
    (ho : o.op = .call { callee := .builtin .append, args := #[s, x], argTypes := #[41, 41] })
    (B B2 g cap n g2 c2 k : Nat) (xs ys : List ByteArray) (W : World) (hn : xs.length = n) (hk : ys.length = k) (hown : OwnStrs W B g cap xs) (hnew : OwnStrs W B2 g2 c2 ys) (hs : a.eval s = (Value.slice (some ⟨g, 0, none⟩) n cap)) (hx : a.eval x = (Value.slice (some ⟨g2, 0, none⟩) k c2)) (hlen : n + k ≤ 1048576)
    (h : ∀ g' cap' w', OwnStrs w' B g' cap' (xs ++ ys) → W.grownBy w' (some g) → (g' = g ∨ g' = W.heap.size) → K (a.put o.dst (Value.slice (some ⟨g', 0, none⟩) (n + k) cap')) w') :
    if Region.wanted o (yielded ops a.tmps) = true then Oper.wp Tryz.prog o a W K Q else E := by
  subst hn; subst hk
  have hw : Region.wanted o (yielded ops a.tmps) = true := by simp [Region.wanted, hgd]
  rw [if_pos hw]
  obtain ⟨g', cap', w', hr, h1, h2, h3⟩ := run_append_K infoStr Tryz.underlying41 rfl (by decide) (by decide) hown g2 0 ys.length c2 (ys.map Value.string) (by simp) (fun j u hu => by
    have hj : j < ys.length := by have := (List.getElem?_eq_some_iff.1 hu).1; simpa using this
    have h := hnew.cell j ys[j] (by simp [hj])
    rw [h, ← hu]
    simp [hj]) (fun u hu => by obtain ⟨b, -, rfl⟩ := List.mem_map.1 hu; rfl) hlen o.type
  unfold Oper.wp execOp
  simp only [ho, resolve, invoke, builtin, Sem.run_bind, Sem.run_pure, Result.andThen_ok, List.map_toArray, List.map_cons, List.map_nil, hs, hx, hr]
  refine h g' cap' w' ?_ h2 h3
  unfold OwnStrs
  rw [List.map_append, List.length_append]
  exact h1
theorem OwnStrs.two {w w1 w2 : World} {B g cap : Nat} {xs : List ByteArray} (h : OwnStrs w B g cap xs) (h1 : Below w.heap.size w w1) (h2 : Below w1.heap.size w1 w2) : OwnStrs w2 B g cap xs := by
  have a : OwnStrs w1 B g cap xs := OwnK.below h h1 (OwnK.lt h)
  exact OwnK.below a h2 (OwnK.lt a)
theorem OwnStrs.over {w : World} {B g cap : Nat} {xs : List ByteArray} (h : OwnStrs w B g cap xs) (o : Obj) : OwnStrs (w.alloc o) B g cap xs := OwnK.alloc h o
theorem own_three (w : World) (B : Nat) (a b c : List UInt8) (hB : B ≤ w.heap.size) : OwnStrs (w.alloc (.cells #[.string ⟨a.toArray⟩, .string ⟨b.toArray⟩, .string ⟨c.toArray⟩] 9)) B w.heap.size 3 (strs [a, b, c]) :=
  World.ownsRow_lit w #[.string ⟨a.toArray⟩, .string ⟨b.toArray⟩, .string ⟨c.toArray⟩] 3 hB (by decide) rfl
theorem impl_line_any {w : World} {B g c n : Nat} {L : List (List UInt8)} (ho : OwnStrs w B g c (strs L)) (hn : L.length = n) (hN : n ≤ 1048576) (hl : (join L [32]).length ≤ 140737488355328) :
    Calls Tryz.prog 36 #[(Value.slice (some ⟨g, 0, none⟩) n c)] w (Gives w (.string ⟨(join L [32]).toArray⟩)) := by
  have hcall := joinS ho hn hN hl
  have Hcall := Lib.hid hcall
  clear hcall hl ho
  generalize (⟨(join L [32]).toArray⟩ : ByteArray) = s at *
  go_enter Tryz.func36, Tryz.ntmps36
  go_wp2_with fail
  refine Hcall.out.mono ?_
  rintro e w1 ⟨rfl, hb1⟩
  go_wp2_with fail
  go_ret
  exact ⟨rfl, hb1⟩
end Go.Proofs.YtnpechcnmchneaaGreatDoor
namespace Go.Proofs.YtnpechcnmchneaaGreatDoor
set_option maxRecDepth 100000
open Go.RowKit
open Go.Lib (join)

theorem index_one (c : UInt8) (r : List UInt8) : ∀ x : List UInt8, c ∉ x → Lib.index (x ++ c :: r) [c] = (x.length : Int)
  | [], _ => by
    show Lib.index (c :: r) [c] = 0
    unfold Lib.index
    rw [if_pos (by simp [List.isPrefixOf])]
  | b :: x, h => by
    have hb : c ≠ b := fun e => h (by simp [e])
    have ih := index_one c r x fun hm => h (by simp [hm])
    show Lib.index (b :: (x ++ c :: r)) [c] = _
    unfold Lib.index
    rw [if_neg (by simp [List.isPrefixOf, hb]), ih]
    rw [if_neg (by rw [beq_iff_eq]; omega)]
    simp
theorem splitK_join (c : UInt8) : ∀ (L : List (List UInt8)), L ≠ [] → (∀ x ∈ L, c ∉ x) → Lib.splitK [c] 0 (Lib.count (join L [c]) [c]) (join L [c]) = L ∧ Lib.count (join L [c]) [c] + 1 = L.length
  | [], h, _ => absurd rfl h
  | [x], _, h => by
    have e : join [x] [c] = x := by simp [join, List.intercalate]
    rw [e]
    have e0 : Lib.count x [c] = 0 := by rw [Lib.count_one]; exact List.count_eq_zero.2 (h x (by simp))
    rw [e0]
    exact ⟨rfl, rfl⟩
  | x :: y :: L, _, h => by
    have ih := splitK_join c (y :: L) (by simp) fun z hz => h z (by simp [hz])
    have e : join (x :: y :: L) [c] = x ++ c :: join (y :: L) [c] := by simp [join, List.intercalate, List.intersperse]
    have hx := h x (by simp)
    have e0 : Lib.count (join (x :: y :: L) [c]) [c] = Lib.count (join (y :: L) [c]) [c] + 1 := by
      rw [Lib.count_one, Lib.count_one, e, List.count_append, List.count_cons, List.count_eq_zero.2 hx]
      simp
    rw [e0, e]
    have hi := index_one c (join (y :: L) [c]) x hx
    refine ⟨?_, by rw [ih.2]; rfl⟩
    unfold Lib.splitK
    rw [hi, if_neg (by rw [beq_iff_eq]; omega)]
    have ht : ((x.length : Int)).toNat = x.length := by omega
    rw [ht, Nat.add_zero, List.take_left']
    · congr 1
      rw [show x ++ c :: join (y :: L) [c] = (x ++ [c]) ++ join (y :: L) [c] by simp, List.drop_left' (by simp)]
      exact ih.1
    · rfl
theorem strs_of {l : List ByteArray} {L : List (List UInt8)} (h : l.map (·.data.toList) = L) : l = strs L := by
  subst h
  unfold strs
  rw [List.map_map]
  have : ((fun l : List UInt8 => (⟨l.toArray⟩ : ByteArray)) ∘ fun x : ByteArray => x.data.toList) = id := by funext x; rfl
  rw [this, List.map_id]

/-- the length that internal/bytealg was told -/
def MaxL (w : World) : Prop := ∃ m : Int, w.cell? ⟨0, 0, none⟩ = some (.int .i64 m)
theorem MaxL.below {w w' : World} (h : MaxL w) (hb : Below w.heap.size w w') : MaxL w' := by
  obtain ⟨m, hm⟩ := h
  exact ⟨m, (hb.cell (p := ⟨0, 0, none⟩) (World.block_lt_of_cell? w _ hm)).trans hm⟩
theorem split_ok (c : UInt8) (L : List (List UInt8)) (w : World) (hL : L ≠ []) (hLn : L.length ≤ 1048576) (hc : ∀ x ∈ L, c ∉ x) (hl : (join L [c]).length < 4294967281) (hm : MaxL w) :
    Calls Tryz.prog 122 #[.string ⟨(join L [c]).toArray⟩, .string ⟨#[c]⟩] w fun e w' => ∃ g, e = .returned (Value.slice (some ⟨g, 0, none⟩) L.length L.length) ∧ OwnStrs w' w.heap.size g L.length (strs L) ∧ Below w.heap.size w w' := by
  obtain ⟨m, hm⟩ := hm
  have h := Any.strings_Split Tryz.lays146 (by kernel_rfl) ⟨(join L [c]).toArray⟩ ⟨#[c]⟩ m w (by simpa [ByteArray.size] using hl) hm (by simp [ByteArray.size])
  change Calls Tryz.prog 122 _ _ _ at h
  have e1 : Lib.countB ⟨(join L [c]).toArray⟩ ⟨#[c]⟩ = Lib.count (join L [c]) [c] := rfl
  obtain ⟨s1, s2⟩ := splitK_join c L hL hc
  have e2 : Lib.splitB ⟨#[c]⟩ 0 (Lib.count (join L [c]) [c]) ⟨(join L [c]).toArray⟩ = strs L := by
    apply strs_of
    rw [Lib.splitB_data]
    exact s1
  rw [e1, s2, e2] at h
  refine h.mono ?_
  rintro e w' ⟨rfl, rfl⟩
  refine ⟨w.heap.size, rfl, ?_, (Below.refl _ _).alloc (Nat.le_refl _) _⟩
  have hn : (strs L).length = L.length := by simp [strs]
  have h2 : (w.alloc (.cells ((strs L).map Value.string).toArray 9)).ownsRow w.heap.size 9 1 (Value.slice (some ⟨w.heap.size, 0, none⟩) L.length L.length) L.length ((strs L).map Value.string).toArray.toList :=
    World.ownsRow_lit w ((strs L).map Value.string).toArray L.length (Nat.le_refl _) (by unfold maxLen; omega) (by simp [hn])
  unfold OwnStrs OwnK
  rw [hn]
  exact h2
end Go.Proofs.YtnpechcnmchneaaGreatDoor
namespace Go.Proofs.YtnpechcnmchneaaGreatDoor
set_option maxRecDepth 100000
open Go.RowKit

theorem impl_isPoint_nb (gc oc n cc : Nat) (i : Int) (w : World) : Calls Tryz.prog 154 #[(Value.slice (some ⟨gc, oc, none⟩) n cc), .int .i64 i] w (Reads w (.bool (decide (0 ≤ i) && decide (i < n)))) := by
  by_cases h : 0 ≤ i
  · have h' : decide (0 ≤ i) = true := decide_eq_true h
    rw [h']
    go_enter Tryz.func154, Tryz.ntmps154
    go_wp2
    go_ret
    exact ⟨rfl, 0, rfl⟩
  · have h' : decide (0 ≤ i) = false := decide_eq_false h
    rw [h']
    go_enter Tryz.func154, Tryz.ntmps154
    go_wp2
    go_ret
    exact ⟨rfl, 0, rfl⟩

def nbTo (c : List (List Int)) (i k : Nat) : List Nat := (List.range k).filter fun j => j != i && (ent c i j != 0)
theorem nbTo_yes {c : List (List Int)} {i k : Nat} (h : k ≠ i) (h2 : ent c i k ≠ 0) : nbTo c i (k + 1) = nbTo c i k ++ [k] := by
  unfold nbTo; rw [List.range_succ, List.filter_append]; simp [h, h2]
theorem nbTo_no {c : List (List Int)} {i k : Nat} (h : k = i ∨ ent c i k = 0) : nbTo c i (k + 1) = nbTo c i k := by
  unfold nbTo; rw [List.range_succ, List.filter_append]
  rcases h with h | h <;> simp [h]
theorem nbTo_le (c : List (List Int)) (i k : Nat) : (nbTo c i k).length ≤ k := by
  unfold nbTo; exact Nat.le_trans (List.length_filter_le _ _) (by simp)

set_option maxHeartbeats 2000000 in
theorem impl_NeighboursOf_ok (gc oc n cc i : Nat) (c : List (List Int)) (w : World) (hn : c.length = n) (hC : IsC c) (hi : i < c.length) (hgc : gc < w.heap.size) (hr : Rows2 w gc oc c) :
    Calls Tryz.prog 119 #[(Value.slice (some ⟨gc, oc, none⟩) n cc), .int .i64 i] w (GotInts w (intsOf (nbL c i))) := by
  subst hn
  have hn4 := hC.2.1
  have hb0 : Below w.heap.size w (w.alloc (.cells #[] 3)) := (by repeat (first | with_reducible exact Below.refl _ _ | with_reducible assumption | with_reducible refine below_drewN ?_ _ | with_reducible refine Below.drew ?_ | (with_reducible refine Below.alloc ?_ ?_ _; rotate_left; · first | (simp; done) | (simp; omega) | exact Below.size (by assumption) | (have hsz := Below.size (by assumption : Below _ _ _); simp at hsz ⊢; omega)) | (with_reducible refine Below.setCell ?_ ?_ _; rotate_left; · first | (simp; done) | (simp; omega))))
  have hiI : (decide ((0 : Int) ≤ (i : Int)) && decide ((i : Int) < (c.length : Int))) = true := by simp; omega
  go_enter Tryz.func119, Tryz.ntmps119
  go_wp2_with fail
  refine (impl_IsCartan gc oc _ cc c _ rfl (by omega) (fun j hj => by have := hC.2.2.1 j hj; omega) (hr.below hb0 hgc)).mono ?_
  rintro e w1 ⟨rfl, m1, rfl⟩
  rw [decide_eq_true hC]
  go_wp2_with fail
  refine (impl_isPoint_nb gc oc _ cc i _).mono ?_
  rintro e w2 ⟨rfl, m2, rfl⟩
  rw [hiI]
  clear hiI
  obtain ⟨ga, oa, ca, q1, q2, q3, q4⟩ := hr i hi
  have hri := hC.2.2.1 i hi
  rw [hri] at q1
  have hiI2 : (i : Int) < (c.length : Int) := by omega
  go_wp2_with fail
  go_loopw [5, 6, 20] (fun s _ k wr => ∃ t g' c' n' : Nat, t ≤ c.length ∧ k = .int .i64 t ∧ s = (Value.slice (some ⟨g', 0, none⟩) n' c') ∧ Hid ((nbTo c i t).length = n') ∧ Own wr w.heap.size g' c' (intsOf (nbTo c i t)) ∧ Below w.heap.size w wr) (fun _ _ k _ => c.length - (intOf k).toNat)
  case atStart => exact ⟨0, w.heap.size, 0, 0, Nat.zero_le _, rfl, rfl, rfl, Own.drewN (Own.empty (w := w) (Nat.le_refl _)) _, below_drewN hb0 _⟩
  case round =>
    obtain ⟨t, g', c', n', ht, rfl, rfl, hn', ho, hb⟩ := hrel
    have hle := nbTo_le c i t
    rw [hn'.out] at hle
    by_cases hlt : t < c.length
    · have hltI : (t : Int) < (c.length : Int) := by omega
      have r1 := (hb.cell (p := ⟨gc, oc + i, none⟩) hgc).trans q1
      have r2 := q4.below hb q3 t (by rw [hri]; exact hlt)
      have hee : (c.getD i []).getD t 0 = ent c i t := rfl
      rw [hee] at r2
      by_cases hti : t = i
      · have hS := nbTo_no (c := c) (i := i) (k := t) (.inl hti)
        have HS := Lib.hid hS
        have hd : ((t : Int) != (i : Int)) = false := by simp; omega
        clear hS hti hee r1 r2
        go_wp2
        go_roundw
        case rel => exact ⟨t + 1, g', c', n', by omega, by go_num, rfl, by show _ = _; rw [HS.out]; exact hn'.out, by rw [HS.out]; exact ho, hb⟩
        case measure => simp [intOf]; omega
      · have hd : ((t : Int) != (i : Int)) = true := by simp; omega
        by_cases hz : ent c i t = 0
        · have hS := nbTo_no (c := c) (i := i) (k := t) (.inr hz)
          have HS := Lib.hid hS
          rw [hz] at r2
          clear hS hti hee hz
          go_wp2
          go_roundw
          case rel => exact ⟨t + 1, g', c', n', by omega, by go_num, rfl, by show _ = _; rw [HS.out]; exact hn'.out, by rw [HS.out]; exact ho, hb⟩
          case measure => simp [intOf]; omega
        · have hS := nbTo_yes (c := c) hti hz
          have HS := Lib.hid hS
          have hzb : (ent c i t != 0) = true := by simpa using hz
          clear hS hti hee hz
          generalize ent c i t = x at *
          go_wp2_with (at_builtin; refine wpList_append_int_n rfl _ _ rfl w.heap.size g' c' n' (intsOf (nbTo c i t)) (t : Int) (by rw [intsOf_length]; exact hn'.out) ho rfl rfl (by omega) ?_)
          intro g3 c3 w3 ho3 hg3 _
          go_wp2
          go_roundw
          case rel =>
            rw [← intsOf_push, ← HS.out] at ho3
            exact ⟨t + 1, g3, c3, n' + 1, by omega, by go_num, rfl, by show _ = _; rw [HS.out, List.length_append, hn'.out]; rfl, ho3, hb.grown hg3 hb.size (by intro j hj; cases hj; exact ho.base)⟩
          case measure => simp [intOf]; omega
    · obtain rfl : t = c.length := by omega
      have hN : nbTo c i c.length = nbL c i := rfl
      rw [hN] at ho hn'
      go_wp2
      go_ret
      exact GotInts.mk' g' c' (by rw [intsOf_length]; exact hn'.out) ho hb

set_option maxHeartbeats 2000000 in
theorem spec_NeighboursOf_ok (gc oc n cc i : Nat) (c : List (List Int)) (w : World) (hn : c.length = n) (hC : IsC c) (hi : i < c.length) (hgc : gc < w.heap.size) (hr : Rows2 w gc oc c) :
    Calls Tryz.prog 151 #[(Value.slice (some ⟨gc, oc, none⟩) n cc), .int .i64 i] w (GotInts w (intsOf (nbL c i))) := by
  subst hn
  have hn4 := hC.2.1
  have hcart : Hid (∀ W, Below w.heap.size w W → Calls Tryz.prog 15 #[(Value.slice (some ⟨gc, oc, none⟩) c.length cc)] W (Reads W (.bool true))) := fun W hW => by
    have := spec_IsCartan gc oc _ cc c W rfl (by omega) (fun j hj => by have := hC.2.2.1 j hj; omega) (hr.below hW hgc)
    rwa [decide_eq_true hC] at this
  have hin : Hid (∀ W, Calls Tryz.prog 56 #[.int .i64 i, .int .i64 0, .int .i64 ((c.length : Int) - 1)] W (Reads W (.bool true))) := fun W => by
    have := spec_l1In i 0 ((c.length : Int) - 1) W
    rwa [show (decide ((0 : Int) ≤ (i : Int)) && decide ((i : Int) ≤ (c.length : Int) - 1)) = true by rw [Bool.and_eq_true, decide_eq_true_eq, decide_eq_true_eq]; omega] at this
  have ew : IntKind.i64.wrap ((c.length : Int) - 1) = (c.length : Int) - 1 := IntWalk.i64_in _ (by omega)
  obtain ⟨ga, oa, ca, q1, q2, q3, q4⟩ := hr i hi
  have hri := hC.2.2.1 i hi
  rw [hri] at q1
  have hiI2 : (i : Int) < (c.length : Int) := by omega
  go_enter Tryz.func151, Tryz.ntmps151
  go_wp2_with fail
  go_loopw [5, 6] (fun s k wr => ∃ t g' c' n' : Nat, t ≤ c.length ∧ k = .int .i64 t ∧ s = (Value.slice (some ⟨g', 0, none⟩) n' c') ∧ Hid ((nbTo c i t).length = n') ∧ Own wr w.heap.size g' c' (intsOf (nbTo c i t)) ∧ Below w.heap.size w wr) (fun _ k _ => c.length - (intOf k).toNat)
  case atStart => exact ⟨0, w.heap.size, 0, 0, Nat.zero_le _, rfl, rfl, rfl, Own.empty (w := w) (Nat.le_refl _), (Below.refl _ _).alloc (Nat.le_refl _) _⟩
  case round =>
    obtain ⟨t, g', c', n', ht, rfl, rfl, hn', ho, hb⟩ := hrel
    have hle := nbTo_le c i t
    rw [hn'.out] at hle
    by_cases hlt : t < c.length
    · have hltI : (t : Int) < (c.length : Int) := by omega
      go_wp2_with fail
      refine (hcart.out _ hb).mono ?_
      rintro e w2 ⟨rfl, m2, rfl⟩
      go_wp2_with fail
      refine (hin.out _).mono ?_
      rintro e w3 ⟨rfl, m3, rfl⟩
      have hb3 : Below w.heap.size w (wr.drewN (m2 + m3)) := below_drewN hb (m2 + m3)
      have ho3 : Own (wr.drewN (m2 + m3)) w.heap.size g' c' (intsOf (nbTo c i t)) := ho.drewN (m2 + m3)
      have r1 := (hb.cell (p := ⟨gc, oc + i, none⟩) hgc).trans q1
      have r2 := q4.below hb q3 t (by rw [hri]; exact hlt)
      have hee : (c.getD i []).getD t 0 = ent c i t := rfl
      rw [hee] at r2
      by_cases hti : t = i
      · have hS := nbTo_no (c := c) (i := i) (k := t) (.inl hti)
        have HS := Lib.hid hS
        have hd : ((t : Int) != (i : Int)) = false := by simp; omega
        clear hS hti hee r1 r2
        go_wp2_with fail
        go_roundw
        case rel => exact ⟨t + 1, g', c', n', by omega, by go_num, rfl, by show _ = _; rw [HS.out]; exact hn'.out, by rw [HS.out]; exact ho3, hb3⟩
        case measure => simp [intOf]; omega
      · have hd : ((t : Int) != (i : Int)) = true := by simp; omega
        by_cases hz : ent c i t = 0
        · have hS := nbTo_no (c := c) (i := i) (k := t) (.inr hz)
          have HS := Lib.hid hS
          rw [hz] at r2
          clear hS hti hee hz
          go_wp2_with fail
          go_roundw
          case rel => exact ⟨t + 1, g', c', n', by omega, by go_num, rfl, by show _ = _; rw [HS.out]; exact hn'.out, by rw [HS.out]; exact ho3, hb3⟩
          case measure => simp [intOf]; omega
        · have hS := nbTo_yes (c := c) hti hz
          have HS := Lib.hid hS
          have hzb : (ent c i t != 0) = true := by simpa using hz
          clear hS hti hee hz
          generalize ent c i t = x at *
          go_wp2_with (at_builtin; refine wpList_append_int_n (w := wr.drewN (m2 + m3)) rfl _ _ rfl w.heap.size g' c' n' (intsOf (nbTo c i t)) (t : Int) (by rw [intsOf_length]; exact hn'.out) ho3 rfl rfl (by omega) ?_)
          intro g4 c4 w4 ho4 hg4 _
          go_wp2
          go_roundw
          case rel =>
            rw [← intsOf_push, ← HS.out] at ho4
            exact ⟨t + 1, g4, c4, n' + 1, by omega, by go_num, rfl, by show _ = _; rw [HS.out, List.length_append, hn'.out]; rfl, ho4, hb3.grown hg4 hb3.size (by intro j hj; cases hj; exact ho.base)⟩
          case measure => simp [intOf]; omega
    · obtain rfl : t = c.length := by omega
      have hN : nbTo c i c.length = nbL c i := rfl
      rw [hN] at ho hn'
      go_wp2_with fail
      go_ret
      exact GotInts.mk' g' c' (by rw [intsOf_length]; exact hn'.out) ho hb
end Go.Proofs.YtnpechcnmchneaaGreatDoor
