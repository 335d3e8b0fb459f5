/- Net ClaimWord FmtC Join FmtD May -/
import Derived.Test.YtkjglfafphffiaaGreatDoorC00
import Derived.WalkLawsBesides
import Derived.Test.YtkjglfafphffiaaGreatDoorC42
import Derived.Test.YtkjglfafphffiaaGreatDoorC32
import Derived.Lib.SmallJoins
import Derived.Laws.ResultCell
import Derived.Deep.RegionHeld3
import Derived.Test.YtkjglfafphffiaaGreatDoorC06
import Derived.Test.YtkjglfafphffiaaGreatDoorC38
import Derived.Test.YtkjglfafphffiaaGreatDoorC15
import Derived.Test.YtkjglfafphffiaaGreatDoorC04
namespace Go.Proofs.YtkjglfafphffiaaGreatDoor
set_option maxRecDepth 100000
open Go.RowKit
set_option maxHeartbeats 400000 in
theorem spec_l1In_any (x lo hi : Int) (w : World) :
    Calls Tryz.prog 78 #[.int .i64 x, .int .i64 lo, .int .i64 hi] w (Reads w (.bool (decide (lo ≤ x ∧ x ≤ hi)))) := by
  by_cases h : lo ≤ x
  · have d : decide (lo ≤ x) = true := by simpa using h
    go_enter Tryz.func78, Tryz.ntmps78
    go_wp2
    go_ret
    exact ⟨ret_bool (by simp [h]), 0, rfl⟩
  · have d : decide (lo ≤ x) = false := by simpa using h
    go_enter Tryz.func78, Tryz.ntmps78
    go_wp2
    go_ret
    exact ⟨ret_bool (by simp), 0, rfl⟩
end Go.Proofs.YtkjglfafphffiaaGreatDoor
namespace Go.Proofs.YtkjglfafphffiaaGreatDoor
set_option maxRecDepth 100000
open Go.RowKit
def claimWord (k : Int) : ByteArray :=
  if k = 1 then ⟨#[114, 101, 100, 117, 99, 101, 100]⟩ else if k = 2 then ⟨#[101, 113, 117, 97, 108]⟩ else if k = 3 then ⟨#[98, 101, 108, 111, 119]⟩
  else if k = 4 then ⟨#[110, 111, 116, 98, 101, 108, 111, 119]⟩ else if k = 5 then ⟨#[105, 110, 102, 105, 110, 105, 116, 101]⟩ else if k = 6 then ⟨#[115, 111, 114, 116, 115]⟩ else ⟨#[]⟩
theorem impl_ClaimWord_any (k : Int) (w : World) : Calls Tryz.prog 22 #[.int .i64 k] w (Reads w (.string (claimWord k))) := by
  by_cases h1 : k = 1
  · subst h1; go_enter Tryz.func22, Tryz.ntmps22; go_wp2; go_ret; exact ⟨rfl, 0, rfl⟩
  by_cases h2 : k = 2
  · subst h2; go_enter Tryz.func22, Tryz.ntmps22; go_wp2; go_ret; exact ⟨rfl, 0, rfl⟩
  by_cases h3 : k = 3
  · subst h3; go_enter Tryz.func22, Tryz.ntmps22; go_wp2; go_ret; exact ⟨rfl, 0, rfl⟩
  by_cases h4 : k = 4
  · subst h4; go_enter Tryz.func22, Tryz.ntmps22; go_wp2; go_ret; exact ⟨rfl, 0, rfl⟩
  by_cases h5 : k = 5
  · subst h5; go_enter Tryz.func22, Tryz.ntmps22; go_wp2; go_ret; exact ⟨rfl, 0, rfl⟩
  by_cases h6 : k = 6
  · subst h6; go_enter Tryz.func22, Tryz.ntmps22; go_wp2; go_ret; exact ⟨rfl, 0, rfl⟩
  have d1 : (k == 1) = false := by simpa using h1
  have d2 : (k == 2) = false := by simpa using h2
  have d3 : (k == 3) = false := by simpa using h3
  have d4 : (k == 4) = false := by simpa using h4
  have d5 : (k == 5) = false := by simpa using h5
  have d6 : (k == 6) = false := by simpa using h6
  have e : claimWord k = ⟨#[]⟩ := by simp [claimWord, h1, h2, h3, h4, h5, h6]
  rw [e]
  clear e h1 h2 h3 h4 h5 h6
  go_enter Tryz.func22, Tryz.ntmps22; go_wp2; go_ret; exact ⟨rfl, 0, rfl⟩
set_option maxHeartbeats 1000000 in
theorem spec_ClaimWord_any (k : Int) (w : World) : Calls Tryz.prog 23 #[.int .i64 k] w (Gives w (.string (claimWord k))) := by
  by_cases hr : 1 ≤ k ∧ k ≤ 6
  · have hl := spec_l1In_any k 1 6 w
    rw [decide_eq_true hr] at hl
    have Hl := Lib.hid hl; clear hl
    have : k = 1 ∨ k = 2 ∨ k = 3 ∨ k = 4 ∨ k = 5 ∨ k = 6 := by omega
    rcases this with rfl | rfl | rfl | rfl | rfl | rfl
    all_goals
      go_enter Tryz.func23, Tryz.ntmps23
      go_wp2_with fail
      refine Hl.out.mono ?_
      rintro e w1 ⟨rfl, m, rfl⟩
      have hcell : ∀ j, ((w.drewN m).alloc (.cells #[.string ⟨#[114, 101, 100, 117, 99, 101, 100]⟩, .string ⟨#[101, 113, 117, 97, 108]⟩, .string ⟨#[98, 101, 108, 111, 119]⟩, .string ⟨#[110, 111, 116, 98, 101, 108, 111, 119]⟩, .string ⟨#[105, 110, 102, 105, 110, 105, 116, 101]⟩, .string ⟨#[115, 111, 114, 116, 115]⟩] 9)).cell? ⟨w.heap.size, j, none⟩ = (#[.string ⟨#[114, 101, 100, 117, 99, 101, 100]⟩, .string ⟨#[101, 113, 117, 97, 108]⟩, .string ⟨#[98, 101, 108, 111, 119]⟩, .string ⟨#[110, 111, 116, 98, 101, 108, 111, 119]⟩, .string ⟨#[105, 110, 102, 105, 110, 105, 116, 101]⟩, .string ⟨#[115, 111, 114, 116, 115]⟩] : Array Value)[j]? := fun j => World.cell?_alloc_at _ _ _ _ rfl
      go_wp2
      go_ret
      exact ⟨rfl, (below_drewN' w m).alloc (Nat.le_refl _) _⟩
  · have hl := spec_l1In_any k 1 6 w
    rw [decide_eq_false hr] at hl
    have Hl := Lib.hid hl; clear hl
    have e : claimWord k = ⟨#[]⟩ := by
      unfold claimWord
      rw [if_neg (by omega), if_neg (by omega), if_neg (by omega), if_neg (by omega), if_neg (by omega), if_neg (by omega)]
    rw [e]
    go_enter Tryz.func23, Tryz.ntmps23
    go_wp2_with fail
    refine Hl.out.mono ?_
    rintro e w1 ⟨rfl, m, rfl⟩
    go_wp2
    go_ret
    exact ⟨rfl, below_drewN' w m⟩
end Go.Proofs.YtkjglfafphffiaaGreatDoor
namespace Go.Proofs.YtkjglfafphffiaaGreatDoor
set_option maxRecDepth 100000
open Go.RowKit
open Go.Lib (join decDigits itoa)
set_option maxHeartbeats 1000000 in
theorem strs_Index (g n cp : Nat) (xs : List (List UInt8)) (w : World) (hn : xs.length = n) (hl : xs.length ≤ 1048576) (hc : ∀ (j : Nat) x, xs[j]? = some x → w.cell? ⟨g, 0 + j, none⟩ = some (.string ⟨x.toArray⟩)) :
    Calls Tryz.prog 125 #[(Value.slice (some ⟨g, 0, none⟩) n cp), .string ⟨#[]⟩] w (fun e w' => ∃ i : Int, e = .returned (.int .i64 i) ∧ decide (0 ≤ i) = xs.any (fun x => x.isEmpty) ∧ ∃ m, w' = w.drewN m) := by
  subst hn
  have Hc := Lib.hid hc
  clear hc
  generalize hA : xs.any (fun x => x.isEmpty) = A
  have HA := Lib.hid hA
  clear hA
  go_enter Tryz.func125, Tryz.ntmps125
  go_wp2
  go_loopw [8] (fun kv wr => ∃ k : Nat, k ≤ xs.length ∧ kv = .int .i64 k ∧ (xs.take k).any (fun x => x.isEmpty) = false ∧ ∃ m, wr = w.drewN m) (fun kv _ => xs.length - (intOf kv).toNat)
  case atStart => exact ⟨0, Nat.zero_le _, rfl, rfl, 0, rfl⟩
  case round =>
    obtain ⟨k, hk, rfl, hno, m, rfl⟩ := hrel
    by_cases hlt : k < xs.length
    · have q1 := Hc.out k xs[k] (by simp [hlt])
      have e1 : (xs.take (k + 1)).any (fun x => x.isEmpty) = xs[k].isEmpty := by
        rw [List.take_succ_eq_append_getElem hlt, List.any_append, hno]
        simp
      have e2 : xs[k].isEmpty = true → A = true := by
        intro h
        rw [← HA.out, List.any_eq_true]
        exact ⟨xs[k], List.getElem_mem hlt, h⟩
      rw [Nat.zero_add] at q1
      have E1 := Lib.hid e1; have E2 := Lib.hid e2
      clear e1 e2 hno
      generalize xs[k] = x at q1 E1 E2
      by_cases hv : x.isEmpty = true
      · go_wp2
        go_ret
        exact ⟨_, rfl, by rw [E2.out hv]; simp, m, rfl⟩
      · have hv' : x.isEmpty = false := by simpa using hv
        clear hv
        go_wp2
        go_roundw
        case rel => exact ⟨k + 1, by omega, by go_num, by rw [E1.out, hv'], m, rfl⟩
        case measure => simp [intOf]; omega
    · obtain rfl : k = xs.length := by omega
      rw [List.take_length] at hno
      have e : A = false := by rw [← HA.out]; exact hno
      clear hno HA
      go_wp2
      go_ret
      exact ⟨_, rfl, by rw [e]; rfl, m, rfl⟩
theorem strs_Contains (g n cp : Nat) (xs : List (List UInt8)) (w : World) (hn : xs.length = n) (hl : xs.length ≤ 1048576) (hc : ∀ (j : Nat) x, xs[j]? = some x → w.cell? ⟨g, 0 + j, none⟩ = some (.string ⟨x.toArray⟩)) :
    Calls Tryz.prog 68 #[(Value.slice (some ⟨g, 0, none⟩) n cp), .string ⟨#[]⟩] w (Reads w (.bool (xs.any (fun x => x.isEmpty)))) := by
  have Hi := Lib.hid (strs_Index g n cp xs w hn hl hc)
  generalize xs.any (fun x => x.isEmpty) = A at *
  clear hc
  go_enter Tryz.func68, Tryz.ntmps68
  go_wp2_with fail
  refine Hi.out.mono ?_
  rintro e w1 ⟨i, rfl, hi, m, rfl⟩
  subst hi
  go_wp2
  go_ret
  exact ⟨rfl, m, rfl⟩
def cwL (k : Int) : List UInt8 := (claimWord k).data.toList
theorem cwL_eq (k : Int) : claimWord k = ⟨(cwL k).toArray⟩ := by simp [cwL]
theorem cwL_len (k : Int) : (cwL k).length ≤ 100 := by unfold cwL claimWord; split <;> (try split) <;> (try split) <;> (try split) <;> (try split) <;> (try split) <;> decide
def finL (W M A B Pf R : List UInt8) : List UInt8 :=
  if (W.isEmpty || A.isEmpty || B.isEmpty || M.isEmpty) = true then [] else W ++ [32] ++ M ++ [32] ++ A ++ [32] ++ B ++ [32, 98, 121, 32] ++ Pf ++ [32, 97, 110, 100, 32] ++ R
def claimL (x : ClaimD) : List UInt8 := finL (cwL x.kind) (cartanL x.cartan) (wordL x.a) (wordL x.b) (weightL x.proof) (rootsL x.roots)
def claimWf (x : ClaimD) : Prop := I64s x.proof ∧ ∀ r ∈ x.roots, I64s r
theorem fin_join (W M A B Pf R : List UInt8) : join [W, M, A, B, [98, 121], Pf, [97, 110, 100], R] [32] = W ++ [32] ++ M ++ [32] ++ A ++ [32] ++ B ++ [32, 98, 121, 32] ++ Pf ++ [32, 97, 110, 100, 32] ++ R := by
  simp [join, List.intercalate, List.intersperse]
theorem keepCellC {W W' : World} {b o : Nat} {v : Value} (hb : Below W.heap.size W W') (h : W.cell? ⟨b, o, none⟩ = some v) : W'.cell? ⟨b, o, none⟩ = some v :=
  (hb.cell (p := ⟨b, o, none⟩) (World.block_lt_of_cell? _ _ h)).trans h
theorem sixF {W : World} {b : Nat} {v0 v1 v2 v3 v4 v5 : Value} {t : TypeId} (h : W.heap[b]? = some (.cells #[v0, v1, v2, v3, v4, v5] t (0, 0))) :
    W.cell? ⟨b, 0, none⟩ = some v0 ∧ W.cell? ⟨b, 1, none⟩ = some v1 ∧ W.cell? ⟨b, 2, none⟩ = some v2 ∧ W.cell? ⟨b, 3, none⟩ = some v3 ∧ W.cell? ⟨b, 4, none⟩ = some v4 ∧ W.cell? ⟨b, 5, none⟩ = some v5 := by
  refine ⟨?_, ?_, ?_, ?_, ?_, ?_⟩ <;> (rw [cell_of_cells h]; rfl)
theorem wordF_len {l : List Int} : (wordL l).length ≤ l.length + 1 := by
  unfold wordL
  split
  · simp
  · split
    · unfold digs; rw [List.length_map]; omega
    · simp
theorem cartanL_len (c : List (List Int)) : (cartanL c).length ≤ 400 := by
  unfold cartanL
  split
  · rename_i hC
    have h1 := rowsL_len (sep := [59]) (isC_i64 hC)
    have h2 := isC_cells hC
    have h4 := hC.2.1
    simp only [List.length_cons, List.length_nil] at h1
    omega
  · simp
theorem few_cells {l : List (List Int)} (h : rowsFewC l) : cellsOf l ≤ 1048576 * l.length :=
  cellsOf_le (m := 1048576) fun r hr => by obtain ⟨i, hi, rfl⟩ := List.mem_iff_getElem.1 hr; have := h.2 i hi; simpa [List.getD, hi] using this
theorem rootsL_len {l : List (List Int)} (h : rowsFewC l) (hw : ∀ r ∈ l, I64s r) : (rootsL l).length ≤ 30000000000000 := by
  unfold rootsL
  split
  · simp
  · have h1 := rowsL_len (sep := [32]) hw
    have h2 := few_cells h
    have h3 := h.1
    simp only [List.length_cons, List.length_nil] at h1
    omega
theorem spec_FormatWordV {v : Value} {xs : List Int} {w : World} (h : IntsV w v xs) (hl : xs.length ≤ 1048576) : Calls Tryz.prog 72 #[v] w (Gives w (.string ⟨(wordL xs).toArray⟩)) := by
  obtain ⟨g, o, n, c, rfl, h1, h2, h3, h4⟩ := h
  exact spec_FormatWord_any g o n c xs w h1 (by omega) h3 h4
theorem spec_FormatWeightV {v : Value} {xs : List Int} {w : World} (h : IntsV w v xs) (hl : xs.length ≤ 1048576) (hw : I64s xs) : Calls Tryz.prog 74 #[v] w (Gives w (.string ⟨(weightL xs).toArray⟩)) := by
  obtain ⟨g, o, n, c, rfl, h1, h2, h3, h4⟩ := h
  exact spec_FormatWeight_any g o n c xs w h1 (by omega) hw h3 h4
theorem spec_FormatCartanV {v : Value} {xs : List (List Int)} {w : World} (h : RowsV w v xs) (hl : rowsFewC xs) : Calls Tryz.prog 73 #[v] w (Gives w (.string ⟨(cartanL xs).toArray⟩)) := by
  obtain ⟨g, o, n, c, rfl, h1, h2, h3, h4⟩ := h
  exact spec_FormatCartan_any g o n c xs w h1 (by have := hl.1; omega) (fun j hj => by have := hl.2 j hj; omega) h3 h4
theorem spec_FormatRootsV {v : Value} {xs : List (List Int)} {w : World} (h : RowsV w v xs) (hl : rowsFewC xs) (hw : ∀ r ∈ xs, I64s r) : Calls Tryz.prog 75 #[v] w (Gives w (.string ⟨(rootsL xs).toArray⟩)) := by
  obtain ⟨g, o, n, c, rfl, h1, h2, h3, h4⟩ := h
  exact spec_FormatRoots_any g o n c xs w h1 (by have := hl.1; omega) (by have := few_cells hl; have := hl.1; omega) hw h3 h4
end Go.Proofs.YtkjglfafphffiaaGreatDoor
namespace Go.Proofs.YtkjglfafphffiaaGreatDoor
set_option maxRecDepth 100000
open Go.RowKit
open Go.Lib (join decDigits itoa)
def strs (L : List (List UInt8)) : List ByteArray := L.map fun l => ⟨l.toArray⟩
theorem strs_data (L : List (List UInt8)) : (strs L).map (·.data.toList) = L := by
  unfold strs
  rw [List.map_map]
  have : ((fun x : ByteArray => x.data.toList) ∘ fun l : List UInt8 => ⟨l.toArray⟩) = id := by funext l; simp
  rw [this, List.map_id]
theorem joinS {w : World} {B g c n : Nat} {L : List (List UInt8)} (ho : OwnStrs w B g c (strs L)) (hn : L.length = n) (hN : n ≤ 1048576) (hl : (join L [32]).length ≤ 140737488355328) :
    Calls Tryz.prog 69 #[(Value.slice (some ⟨g, 0, none⟩) n c), .string ⟨#[32]⟩] w (Gives w (.string ⟨(join L [32]).toArray⟩)) := by
  subst hn
  have e44 : (⟨#[32]⟩ : ByteArray).data.toList = [32] := rfl
  have hsl : (strs L).length = L.length := by simp [strs]
  have hj := Any.strings_Join Tryz.lays156 Tryz.Builder_Extra_156 g 0 c (strs L) ⟨#[32]⟩ w ho.cell (OwnK.lt ho) (by omega) ho.capLe (by rw [strs_data, e44]; exact hl)
  change Calls Tryz.prog 69 _ _ _ at hj
  rw [strs_data, e44, hsl] at hj
  exact hj
theorem step_append_strs {ops : Array Oper} {o : Oper} {a : Act} {K : Act → World → Prop} {Q : Exit → Act → World → Prop} {E : Prop} (hgd : o.guard = none) (s x : Operand)
    (ho : o.op = .call { callee := .builtin .append, args := #[s, x], argTypes := #[66, 66] })
    (B B2 g cap n g2 c2 k : Nat) (xs ys : List ByteArray) (W : World) (hn : xs.length = n) (hk : ys.length = k) (hown : OwnStrs W B g cap xs) (hnew : OwnStrs W B2 g2 c2 ys) (hs : a.eval s = (Value.slice (some ⟨g, 0, none⟩) n cap)) (hx : a.eval x = (Value.slice (some ⟨g2, 0, none⟩) k c2)) (hlen : n + k ≤ 1048576)
    (h : ∀ g' cap' w', OwnStrs w' B g' cap' (xs ++ ys) → W.grownBy w' (some g) → (g' = g ∨ g' = W.heap.size) → K (a.put o.dst (Value.slice (some ⟨g', 0, none⟩) (n + k) cap')) w') :
    if Region.wanted o (yielded ops a.tmps) = true then Oper.wp Tryz.prog o a W K Q else E := by
  subst hn; subst hk
  have hw : Region.wanted o (yielded ops a.tmps) = true := by simp [Region.wanted, hgd]
  rw [if_pos hw]
  obtain ⟨g', cap', w', hr, h1, h2, h3⟩ := run_append_K infoStr Tryz.underlying66 rfl (by decide) (by decide) hown g2 0 ys.length c2 (ys.map Value.string) (by simp) (fun j u hu => by
    have hj : j < ys.length := by have := (List.getElem?_eq_some_iff.1 hu).1; simpa using this
    have h := hnew.cell j ys[j] (by simp [hj])
    rw [h, ← hu]
    simp [hj]) (fun u hu => by obtain ⟨b, -, rfl⟩ := List.mem_map.1 hu; rfl) hlen o.type
  unfold Oper.wp execOp
  simp only [ho, resolve, invoke, builtin, Sem.run_bind, Sem.run_pure, Result.andThen_ok, List.map_toArray, List.map_cons, List.map_nil, hs, hx, hr]
  refine h g' cap' w' ?_ h2 h3
  unfold OwnStrs
  rw [List.map_append, List.length_append]
  exact h1
theorem OwnStrs.two {w w1 w2 : World} {B g cap : Nat} {xs : List ByteArray} (h : OwnStrs w B g cap xs) (h1 : Below w.heap.size w w1) (h2 : Below w1.heap.size w1 w2) : OwnStrs w2 B g cap xs := by
  have a : OwnStrs w1 B g cap xs := OwnK.below h h1 (OwnK.lt h)
  exact OwnK.below a h2 (OwnK.lt a)
theorem OwnStrs.over {w : World} {B g cap : Nat} {xs : List ByteArray} (h : OwnStrs w B g cap xs) (o : Obj) : OwnStrs (w.alloc o) B g cap xs := OwnK.alloc h o
end Go.Proofs.YtkjglfafphffiaaGreatDoor
namespace Go.Proofs.YtkjglfafphffiaaGreatDoor
set_option maxRecDepth 100000
open Go.RowKit
open Go.Lib (join decDigits itoa)
theorem impl_FormatWordV {v : Value} {xs : List Int} {w : World} (h : IntsV w v xs) (hl : xs.length ≤ 1048576) : Calls Tryz.prog 67 #[v] w (Gives w (.string ⟨(wordL xs).toArray⟩)) := by
  obtain ⟨g, o, n, c, rfl, h1, h2, h3, h4⟩ := h
  exact impl_FormatWord_any g o n c xs w h1 hl h3 h4
theorem impl_FormatWeightV {v : Value} {xs : List Int} {w : World} (h : IntsV w v xs) (hl : xs.length ≤ 1048576) (hw : I64s xs) (ht : Tab w) : Calls Tryz.prog 70 #[v] w (Gives w (.string ⟨(weightL xs).toArray⟩)) := by
  obtain ⟨g, o, n, c, rfl, h1, h2, h3, h4⟩ := h
  exact impl_FormatWeight_any g o n c xs w h1 hl hw h3 h4 ht
theorem impl_FormatCartanV {v : Value} {xs : List (List Int)} {w : World} (h : RowsV w v xs) (hl : rowsFewC xs) (ht : Tab w) : Calls Tryz.prog 66 #[v] w (Gives w (.string ⟨(cartanL xs).toArray⟩)) := by
  obtain ⟨g, o, n, c, rfl, h1, h2, h3, h4⟩ := h
  exact impl_FormatCartan_any g o n c xs w h1 (by have := hl.1; omega) (fun j hj => by have := hl.2 j hj; omega) h3 h4 ht
theorem impl_FormatRootsV {v : Value} {xs : List (List Int)} {w : World} (h : RowsV w v xs) (hl : rowsFewC xs) (hw : ∀ r ∈ xs, I64s r) (ht : Tab w) : Calls Tryz.prog 71 #[v] w (Gives w (.string ⟨(rootsL xs).toArray⟩)) := by
  obtain ⟨g, o, n, c, rfl, h1, h2, h3, h4⟩ := h
  exact impl_FormatRoots_any g o n c xs w h1 hl.1 hl.2 hw h3 h4 ht
theorem own_four (w : World) (B : Nat) (a b c d : List UInt8) (hB : B ≤ w.heap.size) : OwnStrs (w.alloc (.cells #[.string ⟨a.toArray⟩, .string ⟨b.toArray⟩, .string ⟨c.toArray⟩, .string ⟨d.toArray⟩] 9)) B w.heap.size 4 (strs [a, b, c, d]) :=
  World.ownsRow_lit w #[.string ⟨a.toArray⟩, .string ⟨b.toArray⟩, .string ⟨c.toArray⟩, .string ⟨d.toArray⟩] 4 hB (by decide) rfl
abbrev by_and (Pf R : List UInt8) : Obj := .cells #[.string ⟨#[98, 121]⟩, .string ⟨Pf.toArray⟩, .string ⟨#[97, 110, 100]⟩, .string ⟨R.toArray⟩] 9
theorem own_by_and (w : World) (B : Nat) (Pf R : List UInt8) (hB : B ≤ w.heap.size) : OwnStrs (w.alloc (by_and Pf R)) B w.heap.size 4 (strs [[98, 121], Pf, [97, 110, 100], R]) := own_four w B [98, 121] Pf [97, 110, 100] R hB
end Go.Proofs.YtkjglfafphffiaaGreatDoor
namespace Go.Proofs.YtkjglfafphffiaaGreatDoor
set_option maxRecDepth 100000
open Go.RowKit Game
def IntsM (w : World) (v : Value) (xs : List Int) : Prop := IntsV w v xs ∨ (v = .slice none 0 0 ∧ xs = [])
def RowsM (w : World) (v : Value) (rows : List (List Int)) : Prop := RowsV w v rows ∨ (v = .slice none 0 0 ∧ rows = [])
def ClaimM (w : World) (v : Value) (x : ClaimD) : Prop := ∃ v1 v2 v3 v4 v5, v = .agg #[.int .i64 x.kind, v1, v2, v3, v4, v5] ∧ RowsM w v1 x.cartan ∧ IntsM w v2 x.a ∧ IntsM w v3 x.b ∧ IntsM w v4 x.proof ∧ RowsM w v5 x.roots
theorem IntsM.shape {w : World} {v : Value} {xs : List Int} (h : IntsM w v xs) : ∃ a c, v = .slice a xs.length c := by
  rcases h with ⟨g, o, n, c, rfl, h1, -⟩ | ⟨rfl, rfl⟩
  · exact ⟨_, c, by rw [h1]⟩
  · exact ⟨_, _, rfl⟩
theorem RowsM.shape {w : World} {v : Value} {xs : List (List Int)} (h : RowsM w v xs) : ∃ a c, v = .slice a xs.length c := by
  rcases h with ⟨g, o, n, c, rfl, h1, -⟩ | ⟨rfl, rfl⟩
  · exact ⟨_, c, by rw [h1]⟩
  · exact ⟨_, _, rfl⟩
theorem IntsM.below {w w' : World} {v : Value} {xs : List Int} (h : IntsM w v xs) (hb : Below w.heap.size w w') : IntsM w' v xs := h.imp (fun h => h.below hb) id
theorem RowsM.below {w w' : World} {v : Value} {xs : List (List Int)} (h : RowsM w v xs) (hb : Below w.heap.size w w') : RowsM w' v xs := h.imp (fun h => h.below hb) id
theorem ClaimM.below {w w' : World} {v : Value} {x : ClaimD} (h : ClaimM w v x) (hb : Below w.heap.size w w') : ClaimM w' v x := by
  obtain ⟨v1, v2, v3, v4, v5, e, h1, h2, h3, h4, h5⟩ := h
  exact ⟨v1, v2, v3, v4, v5, e, h1.below hb, h2.below hb, h3.below hb, h4.below hb, h5.below hb⟩
theorem MayI.toM {w : World} {B E : Nat} {v : Value} {xs : List Int} (h : MayI w B E v xs) : IntsM w v xs := by
  rcases h with ⟨rfl, rfl⟩ | ⟨g', cap, rfl, ho, -⟩
  · exact .inr ⟨rfl, rfl⟩
  · exact .inl ⟨g', 0, xs.length, cap, rfl, rfl, ho.capLe, ho.lt, ho.cells⟩
theorem MayR.toM {w : World} {B E : Nat} {v : Value} {rows : List (List Int)} (h : MayR w B E v rows) : RowsM w v rows := by
  rcases h with ⟨rfl, rfl⟩ | ⟨g', cap, rfl, rs, hc, ho, -, -⟩
  · exact .inr ⟨rfl, rfl⟩
  · refine .inl ⟨g', 0, rows.length, cap, rfl, rfl, by rw [← hc, contents_length]; exact ho.capLe, ho.lt, ?_⟩
    rw [← hc]; exact ho.rows2
theorem HeldC.toM {w : World} {B E : Nat} {v : Value} {x : ClaimD} (h : HeldC w B E v x) : ClaimM w v x := by
  obtain ⟨v1, v2, v3, v4, v5, E1, E2, E3, E4, rfl, -, a1, a2, a3, a4, a5⟩ := h
  exact ⟨v1, v2, v3, v4, v5, rfl, a1.toM, a2.toM, a3.toM, a4.toM, a5.toM⟩
theorem slices_Equal_short (a b : Option Addr) (n c m d : Nat) (w : World) (h : n = 0 ∨ m = 0) :
    Calls Tryz.prog 77 #[.slice a n c, .slice b m d] w (Reads w (.bool (decide (n = m)))) := by
  by_cases e : n = m
  · obtain rfl : n = 0 := by omega
    subst e
    rw [decide_eq_true rfl]
    go_enter Tryz.func77, Tryz.ntmps77
    go_wp2
    go_loopw [13] (fun i wr => i = .int .i64 0 ∧ ∃ n, wr = w.drewN n) (fun _ _ => 0)
    case atStart => exact ⟨rfl, (by first | exact ⟨_, rfl⟩ | exact ⟨0, rfl⟩ | exact still2 _ _ _ | exact still3 _ _ _ _)⟩
    case round =>
      obtain ⟨rfl, q, rfl⟩ := hrel
      go_wp2
      go_ret
      exact ⟨rfl, (by first | exact ⟨_, rfl⟩ | exact ⟨0, rfl⟩ | exact still2 _ _ _ | exact still3 _ _ _ _)⟩
  · rw [decide_eq_false e]
    have b1 : ((n : Int) != (m : Int)) = true := by simp; omega
    have b2 : ¬ (n : Int) = (m : Int) := by omega
    clear e h
    go_enter Tryz.func77, Tryz.ntmps77
    go_wp2_with fail
    go_ret
    exact ⟨rfl, (by first | exact ⟨_, rfl⟩ | exact ⟨0, rfl⟩ | exact still2 _ _ _ | exact still3 _ _ _ _)⟩
theorem slices_EqualFunc_short (a b : Option Addr) (n c m d : Nat) (w : World) (h : n = 0 ∨ m = 0) :
    Calls Tryz.prog 130 #[.slice a n c, .slice b m d, .func (.func 77) #[] #[]] w (Reads w (.bool (decide (n = m)))) := by
  by_cases e : n = m
  · obtain rfl : n = 0 := by omega
    subst e
    rw [decide_eq_true rfl]
    go_enter Tryz.func130, Tryz.ntmps130
    go_wp2
    go_loopw [17] (fun i wr => i = .int .i64 0 ∧ ∃ n, wr = w.drewN n) (fun _ _ => 0)
    case atStart => exact ⟨rfl, (by first | exact ⟨_, rfl⟩ | exact ⟨0, rfl⟩ | exact still2 _ _ _ | exact still3 _ _ _ _)⟩
    case round =>
      obtain ⟨rfl, q, rfl⟩ := hrel
      go_wp2
      go_ret
      exact ⟨rfl, (by first | exact ⟨_, rfl⟩ | exact ⟨0, rfl⟩ | exact still2 _ _ _ | exact still3 _ _ _ _)⟩
  · rw [decide_eq_false e]
    have b1 : ((n : Int) != (m : Int)) = true := by simp; omega
    have b2 : ¬ (n : Int) = (m : Int) := by omega
    clear e h
    go_enter Tryz.func130, Tryz.ntmps130
    go_wp2_with fail
    go_ret
    exact ⟨rfl, (by first | exact ⟨_, rfl⟩ | exact ⟨0, rfl⟩ | exact still2 _ _ _ | exact still3 _ _ _ _)⟩
theorem impl_EqualCartans_short (a b : Option Addr) (n c m d : Nat) (w : World) (h : n = 0 ∨ m = 0) :
    Calls Tryz.prog 76 #[.slice a n c, .slice b m d] w (Reads w (.bool (decide (n = m)))) := by
  have K := Lib.hid (slices_EqualFunc_short a b n c m d w h)
  generalize decide (n = m) = r at *
  clear h
  go_enter Tryz.func76, Tryz.ntmps76
  go_wp2_with fail
  refine K.out.mono ?_
  rintro e w1 ⟨rfl, q, rfl⟩
  go_wp2_with fail
  go_ret
  exact ⟨rfl, (by first | exact ⟨_, rfl⟩ | exact ⟨0, rfl⟩ | exact still2 _ _ _ | exact still3 _ _ _ _)⟩
theorem spec_EqualCartans_short (a b : Option Addr) (n c m d : Nat) (w : World) (h : n = 0 ∨ m = 0) :
    Calls Tryz.prog 37 #[.slice a n c, .slice b m d] w (Reads w (.bool (decide (n = m)))) := by
  by_cases e : n = m
  · obtain rfl : n = 0 := by omega
    subst e
    rw [decide_eq_true rfl]
    go_enter Tryz.func37, Tryz.ntmps37
    go_wp2
    go_loopw [5, 6] (fun i _ wr => i = .int .i64 0 ∧ ∃ n, wr = w.drewN n) (fun _ _ _ => 0)
    case atStart => exact ⟨rfl, (by first | exact ⟨_, rfl⟩ | exact ⟨0, rfl⟩ | exact still2 _ _ _ | exact still3 _ _ _ _)⟩
    case round =>
      obtain ⟨rfl, q, rfl⟩ := hrel
      go_wp2
      go_ret
      exact ⟨rfl, (by first | exact ⟨_, rfl⟩ | exact ⟨0, rfl⟩ | exact still2 _ _ _ | exact still3 _ _ _ _)⟩
  · rw [decide_eq_false e]
    have b1 : ((n : Int) != (m : Int)) = true := by simp; omega
    have b2 : ¬ (n : Int) = (m : Int) := by omega
    clear e h
    go_enter Tryz.func37, Tryz.ntmps37
    go_wp2_with fail
    go_ret
    exact ⟨rfl, (by first | exact ⟨_, rfl⟩ | exact ⟨0, rfl⟩ | exact still2 _ _ _ | exact still3 _ _ _ _)⟩
theorem spec_CompareWords_short (a b : Option Addr) (n c m d : Nat) (w : World) (h : n = 0 ∨ m = 0) :
    Calls Tryz.prog 103 #[.slice a n c, .slice b m d] w (Reads w (.int .i64 (if n = m then 0 else if n < m then -1 else 1))) := by
  by_cases e : n = m
  · obtain rfl : n = 0 := by omega
    subst e
    rw [if_pos rfl]
    go_enter Tryz.func103, Tryz.ntmps103
    go_wp2
    go_loopw [5] (fun i wr => i = .int .i64 0 ∧ ∃ n, wr = w.drewN n) (fun _ _ => 0)
    case atStart => exact ⟨rfl, (by first | exact ⟨_, rfl⟩ | exact ⟨0, rfl⟩ | exact still2 _ _ _ | exact still3 _ _ _ _)⟩
    case round =>
      obtain ⟨rfl, q, rfl⟩ := hrel
      go_wp2
      go_ret
      exact ⟨rfl, (by first | exact ⟨_, rfl⟩ | exact ⟨0, rfl⟩ | exact still2 _ _ _ | exact still3 _ _ _ _)⟩
  · rw [if_neg e]
    have b1 : ((n : Int) != (m : Int)) = true := by simp; omega
    have b2 : ¬ (n : Int) = (m : Int) := by omega
    by_cases hl : n < m
    · rw [if_pos hl]
      have b3 : (n : Int) < (m : Int) := by omega
      clear e h hl
      go_enter Tryz.func103, Tryz.ntmps103
      go_wp2_with fail
      go_ret
      exact ⟨rfl, (by first | exact ⟨_, rfl⟩ | exact ⟨0, rfl⟩ | exact still2 _ _ _ | exact still3 _ _ _ _)⟩
    · rw [if_neg hl]
      have b3 : ¬ (n : Int) < (m : Int) := by omega
      clear e h hl
      go_enter Tryz.func103, Tryz.ntmps103
      go_wp2_with fail
      go_ret
      exact ⟨rfl, (by first | exact ⟨_, rfl⟩ | exact ⟨0, rfl⟩ | exact still2 _ _ _ | exact still3 _ _ _ _)⟩
theorem spec_EqualWords_short (a b : Option Addr) (n c m d : Nat) (w : World) (h : n = 0 ∨ m = 0) :
    Calls Tryz.prog 38 #[.slice a n c, .slice b m d] w (Reads w (.bool (decide (n = m)))) := by
  have K := spec_CompareWords_short a b n c m d w h
  have hz : ((if n = m then (0 : Int) else if n < m then -1 else 1) == 0) = decide (n = m) := by
    by_cases e : n = m
    · rw [if_pos e, decide_eq_true e]; rfl
    · rw [if_neg e, decide_eq_false e]
      split <;> rfl
  generalize (if n = m then (0 : Int) else if n < m then -1 else 1) = z at *
  rw [← hz]
  have K := Lib.hid K
  clear h hz
  go_enter Tryz.func38, Tryz.ntmps38
  go_wp2_with fail
  refine K.out.mono ?_
  rintro e w1 ⟨rfl, q, rfl⟩
  go_wp2_with fail
  go_ret
  exact ⟨by first | rfl | exact ret_bool rfl, (by first | exact ⟨_, rfl⟩ | exact ⟨0, rfl⟩ | exact still2 _ _ _ | exact still3 _ _ _ _)⟩
section
variable {w : World} {v1 v2 : Value}
theorem len_nil_iff {α : Type} [DecidableEq α] {xs ys : List α} (h : xs.length = 0 ∨ ys.length = 0) : decide (xs.length = ys.length) = decide (xs = ys) := by
  rw [decide_eq_decide]
  constructor
  · intro e
    have h1 : xs = [] := List.length_eq_zero_iff.1 (by omega)
    have h2 : ys = [] := List.length_eq_zero_iff.1 (by omega)
    rw [h1, h2]
  · intro e; rw [e]
theorem impl_EqualIntsM {xs ys : List Int} (h1 : IntsM w v1 xs) (h2 : IntsM w v2 ys) (hx : xs.length ≤ 1048576) (hy : ys.length ≤ 1048576) : Calls Tryz.prog 77 #[v1, v2] w (Reads w (.bool (decide (xs = ys)))) := by
  by_cases h0 : xs.length = 0 ∨ ys.length = 0
  · obtain ⟨a, c, rfl⟩ := h1.shape
    obtain ⟨b, d, rfl⟩ := h2.shape
    rw [← len_nil_iff h0]
    exact slices_Equal_short a b _ c _ d w h0
  · rcases h1 with ⟨g1, o1, n1, c1, rfl, l1, _, _, r1⟩ | ⟨rfl, rfl⟩
    · rcases h2 with ⟨g2, o2, n2, c2, rfl, l2, _, _, r2⟩ | ⟨rfl, rfl⟩
      · exact slices_Equal_any g1 o1 n1 c1 g2 o2 n2 c2 xs ys w l1 l2 (by omega) (by omega) r1 r2
      · exact absurd (.inr rfl) h0
    · exact absurd (.inl rfl) h0
theorem spec_EqualIntsM {xs ys : List Int} (h1 : IntsM w v1 xs) (h2 : IntsM w v2 ys) (hx : xs.length ≤ 1048576) (_hy : ys.length ≤ 1048576) : Calls Tryz.prog 38 #[v1, v2] w (Reads w (.bool (decide (xs = ys)))) := by
  by_cases h0 : xs.length = 0 ∨ ys.length = 0
  · obtain ⟨a, c, rfl⟩ := h1.shape
    obtain ⟨b, d, rfl⟩ := h2.shape
    rw [← len_nil_iff h0]
    exact spec_EqualWords_short a b _ c _ d w h0
  · rcases h1 with ⟨g1, o1, n1, c1, rfl, l1, _, _, r1⟩ | ⟨rfl, rfl⟩
    · rcases h2 with ⟨g2, o2, n2, c2, rfl, l2, _, _, r2⟩ | ⟨rfl, rfl⟩
      · exact spec_EqualWords_any g1 o1 n1 c1 g2 o2 n2 c2 xs ys w l1 l2 (by omega) r1 r2
      · exact absurd (.inr rfl) h0
    · exact absurd (.inl rfl) h0
theorem impl_EqualCartansM {a b : List (List Int)} (h1 : RowsM w v1 a) (h2 : RowsM w v2 b) (ha : rowsFewC a) (hb : rowsFewC b) : Calls Tryz.prog 76 #[v1, v2] w (Reads w (.bool (decide (a = b)))) := by
  by_cases h0 : a.length = 0 ∨ b.length = 0
  · obtain ⟨p, c, rfl⟩ := h1.shape
    obtain ⟨q, d, rfl⟩ := h2.shape
    rw [← len_nil_iff h0]
    exact impl_EqualCartans_short p q _ c _ d w h0
  · rcases h1 with ⟨g1, o1, n1, c1, rfl, l1, _, _, r1⟩ | ⟨rfl, rfl⟩
    · rcases h2 with ⟨g2, o2, n2, c2, rfl, l2, _, _, r2⟩ | ⟨rfl, rfl⟩
      · exact impl_EqualCartans_any g1 o1 n1 c1 g2 o2 n2 c2 a b w l1 l2 (by have := ha.1; omega) (fun j hj => by have := ha.2 j hj; omega) (fun j hj => by have := hb.2 j hj; omega) r1 r2
      · exact absurd (.inr rfl) h0
    · exact absurd (.inl rfl) h0
theorem spec_EqualCartansM {a b : List (List Int)} (h1 : RowsM w v1 a) (h2 : RowsM w v2 b) (ha : rowsFewC a) (hb : rowsFewC b) : Calls Tryz.prog 37 #[v1, v2] w (Reads w (.bool (decide (a = b)))) := by
  by_cases h0 : a.length = 0 ∨ b.length = 0
  · obtain ⟨p, c, rfl⟩ := h1.shape
    obtain ⟨q, d, rfl⟩ := h2.shape
    rw [← len_nil_iff h0]
    exact spec_EqualCartans_short p q _ c _ d w h0
  · rcases h1 with ⟨g1, o1, n1, c1, rfl, l1, _, _, r1⟩ | ⟨rfl, rfl⟩
    · rcases h2 with ⟨g2, o2, n2, c2, rfl, l2, _, _, r2⟩ | ⟨rfl, rfl⟩
      · exact spec_EqualCartans_any g1 o1 n1 c1 g2 o2 n2 c2 a b w l1 l2 (by have := ha.1; omega) (fun j hj => by have := ha.2 j hj; omega) (fun j hj => by have := hb.2 j hj; omega) r1 r2
      · exact absurd (.inr rfl) h0
    · exact absurd (.inl rfl) h0
end
theorem impl_IsCartan_nil (w : World) : Calls Tryz.prog 82 #[.slice none 0 0] w (Reads w (.bool false)) := by
  go_enter Tryz.func82, Tryz.ntmps82
  go_wp2_with fail
  go_ret
  exact ⟨rfl, (by first | exact ⟨_, rfl⟩ | exact ⟨0, rfl⟩ | exact still2 _ _ _ | exact still3 _ _ _ _)⟩
theorem spec_IsCartan_nil (w : World) : Calls Tryz.prog 60 #[.slice none 0 0] w (Reads w (.bool false)) := by
  have K := fun W => spec_l1In 0 1 4 W
  rw [show (decide ((1 : Int) ≤ 0) && decide ((0 : Int) ≤ 4)) = false from rfl] at K
  have K := Lib.hid K
  go_enter Tryz.func60, Tryz.ntmps60
  go_wp2_with fail
  go_loopw [3] (fun i wr => i = .int .i64 0 ∧ ∃ n, wr = w.drewN n) (fun _ _ => 0)
  case atStart => exact ⟨rfl, (by first | exact ⟨_, rfl⟩ | exact ⟨0, rfl⟩ | exact still2 _ _ _ | exact still3 _ _ _ _)⟩
  case round =>
    obtain ⟨rfl, q, rfl⟩ := hrel
    go_wp2_with fail
    go_loopw [4, 5] (fun i _ wr => i = .int .i64 0 ∧ ∃ n, wr = w.drewN n) (fun _ _ _ => 0)
    case atStart => exact ⟨rfl, (by first | exact ⟨_, rfl⟩ | exact ⟨0, rfl⟩ | exact still2 _ _ _ | exact still3 _ _ _ _)⟩
    case round =>
      obtain ⟨rfl, q2, rfl⟩ := hrel
      go_wp2_with fail
      refine (K.out _).mono ?_
      rintro e w1 ⟨rfl, q3, rfl⟩
      go_wp2_with fail
      go_ret
      exact ⟨rfl, (by first | exact ⟨_, rfl⟩ | exact ⟨0, rfl⟩ | exact still2 _ _ _ | exact still3 _ _ _ _)⟩
theorem impl_IsWord_nil (v : Option Addr) (n c : Nat) (w : World) : Calls Tryz.prog 25 #[.slice none 0 0, .slice v n c] w (Reads w (.bool false)) := by
  have K := Lib.hid (impl_IsCartan_nil w)
  go_enter Tryz.func25, Tryz.ntmps25
  go_wp2_with fail
  refine K.out.mono ?_
  rintro e w1 ⟨rfl, q, rfl⟩
  go_wp2_with fail
  go_ret
  exact ⟨rfl, (by first | exact ⟨_, rfl⟩ | exact ⟨0, rfl⟩ | exact still2 _ _ _ | exact still3 _ _ _ _)⟩
theorem spec_IsWord_nil {w : World} {v : Value} {l : List Int} (h : IntsM w v l) : Calls Tryz.prog 47 #[.slice none 0 0, v] w (Reads w (.bool false)) := by
  have KC := Lib.hid (fun W => spec_IsCartan_nil W)
  have KI := fun (x : Int) W => spec_l1In x 0 (-1) W
  have e0 : ∀ x : Int, (decide (0 ≤ x) && decide (x ≤ -1)) = false := fun x => by
    rw [← Bool.not_eq_true, Bool.and_eq_true, decide_eq_true_eq, decide_eq_true_eq]; omega
  have KI := Lib.hid (fun (x : Int) W => by have := KI x W; rw [e0] at this; exact this)
  clear e0
  by_cases h0 : l.length = 0
  · obtain ⟨a, c, rfl⟩ := h.shape
    rw [h0]
    clear h h0
    go_enter Tryz.func47, Tryz.ntmps47
    go_wp2_with fail
    go_loopw [5] (fun i wr => i = .int .i64 0 ∧ ∃ n, wr = w.drewN n) (fun _ _ => 0)
    case atStart => exact ⟨rfl, (by first | exact ⟨_, rfl⟩ | exact ⟨0, rfl⟩ | exact still2 _ _ _ | exact still3 _ _ _ _)⟩
    case round =>
      obtain ⟨rfl, q, rfl⟩ := hrel
      go_wp2_with fail
      refine (KC.out _).mono ?_
      rintro e w1 ⟨rfl, q3, rfl⟩
      go_wp2_with fail
      go_ret
      exact ⟨rfl, (by first | exact ⟨_, rfl⟩ | exact ⟨0, rfl⟩ | exact still2 _ _ _ | exact still3 _ _ _ _)⟩
  · rcases h with ⟨g, o, n, c, rfl, l1, _, _, r1⟩ | ⟨rfl, rfl⟩
    · have c1 := r1 0 (by omega)
      have hn : 0 < n := by omega
      generalize l.getD 0 0 = x at *
      clear r1 h0
      rw [Nat.add_zero] at c1
      go_enter Tryz.func47, Tryz.ntmps47
      go_wp2_with fail
      go_loopw [5] (fun i wr => i = .int .i64 0 ∧ ∃ n, wr = w.drewN n) (fun _ _ => 0)
      case atStart => exact ⟨rfl, (by first | exact ⟨_, rfl⟩ | exact ⟨0, rfl⟩ | exact still2 _ _ _ | exact still3 _ _ _ _)⟩
      case round =>
        obtain ⟨rfl, q, rfl⟩ := hrel
        go_wp2_with fail
        refine (KI.out x _).mono ?_
        rintro e w1 ⟨rfl, q3, rfl⟩
        go_wp2_with fail
        go_ret
        exact ⟨rfl, (by first | exact ⟨_, rfl⟩ | exact ⟨0, rfl⟩ | exact still2 _ _ _ | exact still3 _ _ _ _)⟩
    · exact absurd rfl h0
theorem cartanL_nil : cartanL [] = [] := rfl
theorem spec_FormatCartan_nil (w : World) : Calls Tryz.prog 73 #[.slice none 0 0] w (Gives w (.string ⟨(cartanL []).toArray⟩)) := by
  have K := Lib.hid (spec_IsCartan_nil w)
  rw [cartanL_nil]
  go_enter Tryz.func73, Tryz.ntmps73
  go_wp2_with fail
  refine K.out.mono ?_
  rintro e w1 ⟨rfl, q, rfl⟩
  go_wp2_with fail
  go_ret
  exact ⟨rfl, below_drewN (Below.refl _ _) _⟩
theorem impl_FormatCartan_nil (w : World) : Calls Tryz.prog 66 #[.slice none 0 0] w (Gives w (.string ⟨(cartanL []).toArray⟩)) := by
  have K := Lib.hid (impl_IsCartan_nil w)
  rw [cartanL_nil]
  go_enter Tryz.func66, Tryz.ntmps66
  go_wp2_with fail
  refine K.out.mono ?_
  rintro e w1 ⟨rfl, q, rfl⟩
  go_wp2_with fail
  go_ret
  exact ⟨rfl, below_drewN (Below.refl _ _) _⟩
theorem spec_FormatWord_nil (w : World) : Calls Tryz.prog 72 #[.slice none 0 0] w (Gives w (.string ⟨(wordL []).toArray⟩)) := by
  rw [show wordL [] = [101] from rfl]
  go_enter Tryz.func72, Tryz.ntmps72
  go_wp2
  go_loopw [3, 4] (fun sv i wr => i = .int .i64 0 ∧ sv = .string ⟨#[]⟩ ∧ ∃ n, wr = w.drewN n) (fun _ _ _ => 0)
  case atStart => exact ⟨rfl, rfl, (by first | exact ⟨_, rfl⟩ | exact ⟨0, rfl⟩ | exact still2 _ _ _ | exact still3 _ _ _ _)⟩
  case round =>
    obtain ⟨rfl, rfl, q, rfl⟩ := hrel
    go_wp2
    go_ret
    exact ⟨rfl, below_drewN (Below.refl _ _) _⟩
theorem impl_FormatWord_nil (w : World) : Calls Tryz.prog 67 #[.slice none 0 0] w (Gives w (.string ⟨(wordL []).toArray⟩)) := by
  rw [show wordL [] = [101] from rfl]
  go_enter Tryz.func67, Tryz.ntmps67
  go_wp2
  go_ret
  exact ⟨rfl, Below.refl _ _⟩
theorem spec_FormatWeight_nil (w : World) : Calls Tryz.prog 74 #[.slice none 0 0] w (Gives w (.string ⟨(weightL []).toArray⟩)) := by
  rw [show weightL [] = [] from rfl]
  go_enter Tryz.func74, Tryz.ntmps74
  go_wp2
  go_loopw [3, 4] (fun sv i wr => i = .int .i64 0 ∧ sv = .string ⟨#[]⟩ ∧ ∃ n, wr = w.drewN n) (fun _ _ _ => 0)
  case atStart => exact ⟨rfl, rfl, (by first | exact ⟨_, rfl⟩ | exact ⟨0, rfl⟩ | exact still2 _ _ _ | exact still3 _ _ _ _)⟩
  case round =>
    obtain ⟨rfl, rfl, q, rfl⟩ := hrel
    go_wp2
    go_ret
    exact ⟨rfl, below_drewN (Below.refl _ _) _⟩
theorem spec_FormatRoots_nil (w : World) : Calls Tryz.prog 75 #[.slice none 0 0] w (Gives w (.string ⟨(rootsL []).toArray⟩)) := by
  rw [show rootsL [] = [110, 111, 110, 101] from rfl]
  go_enter Tryz.func75, Tryz.ntmps75
  go_wp2
  go_loopw [3, 4] (fun sv i wr => i = .int .i64 0 ∧ sv = .string ⟨#[]⟩ ∧ ∃ n, wr = w.drewN n) (fun _ _ _ => 0)
  case atStart => exact ⟨rfl, rfl, (by first | exact ⟨_, rfl⟩ | exact ⟨0, rfl⟩ | exact still2 _ _ _ | exact still3 _ _ _ _)⟩
  case round =>
    obtain ⟨rfl, rfl, q, rfl⟩ := hrel
    go_wp2
    go_ret
    exact ⟨rfl, below_drewN (Below.refl _ _) _⟩
theorem impl_FormatRoots_nil (w : World) : Calls Tryz.prog 71 #[.slice none 0 0] w (Gives w (.string ⟨(rootsL []).toArray⟩)) := by
  rw [show rootsL [] = [110, 111, 110, 101] from rfl]
  go_enter Tryz.func71, Tryz.ntmps71
  go_wp2
  go_ret
  exact ⟨rfl, Below.refl _ _⟩
theorem impl_joinInts_none (sep : ByteArray) (w : World) : Calls Tryz.prog 124 #[.slice none 0 0, .string sep] w (Gives w (.string ⟨#[]⟩)) := by
  go_enter Tryz.func124, Tryz.ntmps124
  go_wp2
  go_loopw [5, 11] (fun ov kv wr => kv = .int .i64 0 ∧ ov = (Value.slice (some ⟨w.heap.size, 0, none⟩) 0 0) ∧ Below w.heap.size w wr) (fun _ _ _ => 0)
  case atStart => exact ⟨rfl, rfl, (Below.refl _ _).alloc (Nat.le_refl _) _⟩
  case round =>
    obtain ⟨rfl, rfl, hb⟩ := hrel
    have hj := fun W => Any.strings_Join_none Tryz.lays156 Tryz.Builder_Extra_156 (some ⟨w.heap.size, 0, none⟩) 0 sep W
    have Hj : Hid (∀ W, Calls Tryz.prog 69 #[.slice (some ⟨w.heap.size, 0, none⟩) 0 0, .string sep] W fun e w' => e = .returned (.string ⟨#[]⟩) ∧ w' = W) := hj
    clear hj
    go_wp2_with fail
    refine (Hj.out wr).mono ?_
    rintro e w4 ⟨rfl, rfl⟩
    go_wp2_with fail
    go_ret
    exact ⟨rfl, hb⟩
theorem impl_FormatWeight_nil (w : World) : Calls Tryz.prog 70 #[.slice none 0 0] w (Gives w (.string ⟨(weightL []).toArray⟩)) := by
  have Hcall := Lib.hid (impl_joinInts_none ⟨#[44]⟩ w)
  rw [show weightL [] = [] from rfl]
  go_enter Tryz.func70, Tryz.ntmps70
  go_wp2_with fail
  refine Hcall.out.mono ?_
  rintro e w1 ⟨rfl, hb1⟩
  go_wp2_with fail
  go_ret
  exact ⟨rfl, hb1⟩
section
variable {v : Value} {w : World}
theorem spec_FormatWordM {xs : List Int} (h : IntsM w v xs) (hl : xs.length ≤ 1048576) : Calls Tryz.prog 72 #[v] w (Gives w (.string ⟨(wordL xs).toArray⟩)) := by
  rcases h with h | ⟨rfl, rfl⟩
  · exact spec_FormatWordV h hl
  · exact spec_FormatWord_nil w
theorem impl_FormatWordM {xs : List Int} (h : IntsM w v xs) (hl : xs.length ≤ 1048576) : Calls Tryz.prog 67 #[v] w (Gives w (.string ⟨(wordL xs).toArray⟩)) := by
  rcases h with h | ⟨rfl, rfl⟩
  · exact impl_FormatWordV h hl
  · exact impl_FormatWord_nil w
theorem spec_FormatWeightM {xs : List Int} (h : IntsM w v xs) (hl : xs.length ≤ 1048576) (hw : I64s xs) : Calls Tryz.prog 74 #[v] w (Gives w (.string ⟨(weightL xs).toArray⟩)) := by
  rcases h with h | ⟨rfl, rfl⟩
  · exact spec_FormatWeightV h hl hw
  · exact spec_FormatWeight_nil w
theorem impl_FormatWeightM {xs : List Int} (h : IntsM w v xs) (hl : xs.length ≤ 1048576) (hw : I64s xs) (ht : Tab w) : Calls Tryz.prog 70 #[v] w (Gives w (.string ⟨(weightL xs).toArray⟩)) := by
  rcases h with h | ⟨rfl, rfl⟩
  · exact impl_FormatWeightV h hl hw ht
  · exact impl_FormatWeight_nil w
theorem spec_FormatCartanM {xs : List (List Int)} (h : RowsM w v xs) (hl : rowsFewC xs) : Calls Tryz.prog 73 #[v] w (Gives w (.string ⟨(cartanL xs).toArray⟩)) := by
  rcases h with h | ⟨rfl, rfl⟩
  · exact spec_FormatCartanV h hl
  · exact spec_FormatCartan_nil w
theorem impl_FormatCartanM {xs : List (List Int)} (h : RowsM w v xs) (hl : rowsFewC xs) (ht : Tab w) : Calls Tryz.prog 66 #[v] w (Gives w (.string ⟨(cartanL xs).toArray⟩)) := by
  rcases h with h | ⟨rfl, rfl⟩
  · exact impl_FormatCartanV h hl ht
  · exact impl_FormatCartan_nil w
theorem spec_FormatRootsM {xs : List (List Int)} (h : RowsM w v xs) (hl : rowsFewC xs) (hw : ∀ r ∈ xs, I64s r) : Calls Tryz.prog 75 #[v] w (Gives w (.string ⟨(rootsL xs).toArray⟩)) := by
  rcases h with h | ⟨rfl, rfl⟩
  · exact spec_FormatRootsV h hl hw
  · exact spec_FormatRoots_nil w
theorem impl_FormatRootsM {xs : List (List Int)} (h : RowsM w v xs) (hl : rowsFewC xs) (hw : ∀ r ∈ xs, I64s r) (ht : Tab w) : Calls Tryz.prog 71 #[v] w (Gives w (.string ⟨(rootsL xs).toArray⟩)) := by
  rcases h with h | ⟨rfl, rfl⟩
  · exact impl_FormatRootsV h hl hw ht
  · exact impl_FormatRoots_nil w
end
end Go.Proofs.YtkjglfafphffiaaGreatDoor
