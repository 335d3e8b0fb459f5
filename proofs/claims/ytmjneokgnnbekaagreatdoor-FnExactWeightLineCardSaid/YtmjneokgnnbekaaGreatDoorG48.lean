/- Slices of bytes of the call's own; the program's FormatWord: contract. The laid table of powers of ten; the program's FormatInt. The program's joinInts, FormatWeight, FormatRoots, FormatCartan, FormatWord: contracts; they want the laid table of powers of ten. Lists of strings by their bytes; strings.Join with a blank; line: contracts. -/
import Derived.Test.YtmjneokgnnbekaaGreatDoorG46
import Derived.Test.YtmjneokgnnbekaaGreatDoorG03
import Derived.Lib.AppendIntMem
import Derived.Test.YtmjneokgnnbekaaGreatDoorSlat
import Derived.Lib.SmallJoins
namespace Go.Proofs.YtmjneokgnnbekaaGreatDoor
set_option maxRecDepth 100000
open Go.RowKit
set_option maxRecDepth 100000

theorem infoU8 : (Tryz.prog.info? 5).map (fun i => (i.zero, i.size, i.bytes)) = some (some (.int .u8 0), 1, 1) := by kernel_rfl
def u8V (b : UInt8) : Value := .int .u8 (b.toNat : Int)
def OwnBytes (w : World) (B g cap : Nat) (xs : List UInt8) : Prop := OwnK w B 5 1 g cap xs.length (xs.map u8V)
section
variable {w w' : World} {B g cap : Nat} {xs : List UInt8}
theorem OwnBytes.empty (hB : B ≤ w.heap.size) : OwnBytes (w.alloc (.cells #[] 5)) B w.heap.size 0 [] := World.ownsRow_lit w #[] 0 hB (by decide) rfl
theorem OwnBytes.one (x : UInt8) (hB : B ≤ w.heap.size) : OwnBytes (w.alloc (.cells #[u8V x] 5)) B w.heap.size 1 [x] := World.ownsRow_lit w #[u8V x] 1 hB (by decide) rfl
theorem OwnBytes.cell (h : OwnBytes w B g cap xs) (j : Nat) (hj : j < xs.length) : w.cell? ⟨g, j, none⟩ = some (u8V xs[j]) := by
  rw [OwnK.cell h j (by rw [List.length_map]; exact hj)]
  simp
theorem wpList_append_byte {ops : Array Oper} {rest : List Oper} {o : Oper} {a : Act} {Q : Exit → Act → World → Prop} (hgd : o.guard = none) (s x : Operand)
    (ho : o.op = .call { callee := .builtin .append, args := #[s, x], argTypes := #[52, 52] })
    (B g cap n H : Nat) (xs : List UInt8) (z : UInt8) (w W : World) (hn : xs.length = n) (hW : W = w.alloc (.cells #[u8V z] 5)) (hH : w.heap.size = H) (hown : OwnBytes w B g cap xs)
    (hs : a.eval s = (Value.slice (some ⟨g, 0, none⟩) n cap)) (hx : a.eval x = (Value.slice (some ⟨H, 0, none⟩) 1 1)) (hlen : n + 1 ≤ 1048576)
    (h : ∀ g' cap' w', OwnBytes w' B g' cap' (xs ++ [z]) → w.grownBy w' (some g) → (g' = g ∨ w.heap.size < g') → wpList Tryz.prog ops Q rest (a.put o.dst (Value.slice (some ⟨g', 0, none⟩) (n + 1) cap')) w') :
    wpList Tryz.prog ops Q (o :: rest) a W := by
  subst hn; subst hW; subst hH
  have hnew := OwnBytes.one (w := w) (B := w.heap.size) z (Nat.le_refl _)
  refine wpList_append_K infoU8 Tryz.underlying52 rfl (by decide) (by decide) hgd s x ho B g cap xs.length (xs.map u8V) (OwnK.alloc hown _) w.heap.size 0 1 1 [u8V z] rfl ?_ ?_ hs hx hlen ?_
  · intro j u hu
    have hj : j = 0 := by have := (List.getElem?_eq_some_iff.1 hu).1; simp at this; exact this
    subst hj
    have := hnew.cell 0 (by simp)
    rw [Nat.zero_add, this]
    simpa using hu
  · intro u hu
    simp at hu
    subst hu
    rfl
  · intro g' cap' w' h2 h3 h4
    refine h g' cap' w' ?_ ⟨h3.os, h3.tape, h3.output, Nat.le_trans (by simp) h3.size, fun k hk hne => (h3.block k (by simp; omega) hne).trans (Below.heap_alloc _ _ _ hk)⟩ (h4.imp id (by simp; omega))
    unfold OwnBytes
    rw [List.map_append, List.length_append]
    exact h2
end
theorem letterV {i : Int} (h0 : 0 ≤ i) (h1 : i < 4) : Value.int .u8 (49 + i) = u8V (UInt8.ofNat (49 + i.toNat)) := by
  unfold u8V
  rw [UInt8.toNat_ofNat']
  congr 1
  omega

set_option maxHeartbeats 1000000 in
theorem impl_FormatWord_any (g o n cp : Nat) (l : List Int) (w : World) (hn : l.length = n) (hl : l.length ≤ 1048576) (hg : g < w.heap.size) (hc : Cells w g o l) :
    Calls Tryz.prog 22 #[(Value.slice (some ⟨g, o, none⟩) n cp)] w (Gives w (.string ⟨(wordL l).toArray⟩)) := by
  subst hn
  by_cases hz : l.length = 0
  · have e : wordL l = [101] := by unfold wordL; rw [if_pos hz]
    rw [e, hz]
    go_enter Tryz.func22, Tryz.ntmps22
    go_wp2
    go_ret
    exact ⟨rfl, Below.refl _ _⟩
  have hz2 : ((l.length : Int) == 0) = false := by simpa using hz
  generalize hR : wordL l = R
  have HR := Lib.hid hR
  have Hz := Lib.hid hz
  clear hR hz
  go_enter Tryz.func22, Tryz.ntmps22
  go_wp2
  go_loopw [3, 12] (fun ov kv wr => ∃ (k g2 c2 : Nat), k ≤ l.length ∧ kv = .int .i64 k ∧ ov = (Value.slice (some ⟨g2, 0, none⟩) k c2) ∧ (∀ j, j < k → 0 ≤ l.getD j 0 ∧ l.getD j 0 < 4) ∧ OwnBytes wr w.heap.size g2 c2 (digs (l.take k)) ∧ Below w.heap.size w wr) (fun _ kv _ => l.length - (intOf kv).toNat)
  case atStart => exact ⟨0, _, 0, Nat.zero_le _, rfl, rfl, by omega, OwnBytes.empty (Nat.le_refl _), (Below.refl _ _).alloc (Nat.le_refl _) _⟩
  case round =>
    obtain ⟨k, g2, c2, hk, rfl, rfl, hin, ho, hb⟩ := hrel
    by_cases hlt : k < l.length
    · have q1 := (hb.cell (p := ⟨g, o + k, none⟩) hg).trans (hc k hlt)
      by_cases hx0 : l.getD k 0 < 0
      · have hR : R = [] := by rw [← HR.out]; unfold wordL; rw [if_neg Hz.out, if_neg (not_inW hlt (by omega))]
        subst hR
        generalize l.getD k 0 = x at *
        clear hin HR
        go_wp2
        go_ret
        exact ⟨rfl, hb⟩
      by_cases hx4 : 4 ≤ l.getD k 0
      · have hR : R = [] := by rw [← HR.out]; unfold wordL; rw [if_neg Hz.out, if_neg (not_inW hlt (by omega))]
        subst hR
        generalize l.getD k 0 = x at *
        clear hin HR
        go_wp2
        go_ret
        exact ⟨rfl, hb⟩
      have HS := Lib.hid (digs_take hlt)
      have Htl : Hid ((digs (l.take k)).length = k) := Lib.hid (by unfold digs; rw [List.length_map, List.length_take]; omega)
      have Hnext : Hid (∀ j, j < k + 1 → 0 ≤ l.getD j 0 ∧ l.getD j 0 < 4) := Lib.hid fun j hj => by
        by_cases e : j = k
        · subst e; exact ⟨by omega, by omega⟩
        · exact hin j (by omega)
      have ew : wrap64 (49 + l.getD k 0) = 49 + l.getD k 0 := IntWalk.wrap64_in _ ⟨by omega, by omega⟩
      have em : (49 + l.getD k 0) % 256 = 49 + l.getD k 0 := by omega
      have HV := Lib.hid (letterV (i := l.getD k 0) (by omega) (by omega))
      generalize UInt8.ofNat (49 + (l.getD k 0).toNat) = bt at HS HV
      generalize l.getD k 0 = x at hx0 hx4 q1 ew em HV
      clear hin
      go_wp2_with (at_builtin; refine wpList_append_byte rfl _ _ rfl w.heap.size g2 c2 k wr.heap.size (digs (l.take k)) bt wr _ Htl.out (by rw [← HV.out]) rfl ho rfl rfl (by omega) ?_)
      intro g3 c3 w3 ho3 hg3 hor3
      have hb3 : Below w.heap.size w w3 := hb.grown hg3 hb.size (by intro t ht; cases ht; exact OwnK.base ho)
      rw [← HS.out] at ho3
      clear ho hg3
      go_wp2_with fail
      go_roundw
      case rel => exact ⟨k + 1, g3, c3, by omega, by go_num, rfl, Hnext.out, ho3, hb3⟩
      case measure => simp [intOf]; omega
    · obtain rfl : k = l.length := by omega
      rw [List.take_length] at ho
      have hR : R = digs l := by rw [← HR.out]; unfold wordL; rw [if_neg Hz.out, if_pos (inW_of_take hin)]
      subst hR
      have hdl : (digs l).length = l.length := by unfold digs; rw [List.length_map]
      have hcv := run_convert_bytes_back (P := Tryz.prog) wr 52 9 5 ⟨g2, 0, none⟩ c2 (digs l) Tryz.underlying52 Tryz.underlying5 Tryz.underlying9 (fun j hj => by
        have := ho.cell j hj
        rw [Addr.add_lit, Nat.zero_add]
        exact this)
      rw [hdl] at hcv
      clear hin HR ho
      go_wp2
      go_ret
      exact ⟨rfl, hb⟩
end Go.Proofs.YtmjneokgnnbekaaGreatDoor
namespace Go.Proofs.YtmjneokgnnbekaaGreatDoor
set_option maxRecDepth 100000
open Go.RowKit
open Go.Lib (join decDigits itoa)
set_option maxRecDepth 100000

/-- the laid table of powers of ten -/
def Tab (w : World) : Prop := Lib.TabIs Tryz.prog w "internal/strconv.uint64pow10" .u64 Lib.pow10Tab
theorem tabG : ∃ g, Program.globalNamed Tryz.prog "internal/strconv.uint64pow10" = some g := by
  have h : (Program.globalNamed Tryz.prog "internal/strconv.uint64pow10").isSome = true := by kernel_rfl
  exact Option.isSome_iff_exists.1 h
theorem Tab.below {w w' : World} (h : Tab w) (hb : Below w.heap.size w w') : Tab w' := by
  obtain ⟨g, hg⟩ := tabG
  exact Joins.tab_stays hg h hb (Nat.le_refl _)

theorem impl_FormatInt_any (n : Int) (hw : (Lit.int .i64 n).wf = true) (w : World) (ht : Tab w) : Calls Tryz.prog 24 #[.int .i64 n] w (Gives w (.string ⟨(itoa n).toArray⟩)) := by
  have hb := wf_bounds hw
  have hcall := Any.strconv_Itoa Tryz.laysM171 n hb.1 hb.2 w ht
  change Calls Tryz.prog 50 _ _ _ at hcall
  have Hcall := Lib.hid hcall
  clear hcall hw hb
  generalize (⟨(itoa n).toArray⟩ : ByteArray) = s at *
  go_enter Tryz.func24, Tryz.ntmps24
  go_wp2_with fail
  refine Hcall.out.mono ?_
  rintro e w1 ⟨rfl, k, os, rfl⟩
  have hb := Lib.below_grow w.heap.size w (Nat.le_refl _) k os
  go_wp2_with fail
  go_ret
  exact ⟨rfl, hb⟩
end Go.Proofs.YtmjneokgnnbekaaGreatDoor
namespace Go.Proofs.YtmjneokgnnbekaaGreatDoor
set_option maxRecDepth 100000
open Go.RowKit
open Go.Lib (join decDigits itoa)
set_option maxRecDepth 100000

def strsI (l : List Int) : List ByteArray := l.map fun x => ⟨(itoa x).toArray⟩
theorem strsI_length (l : List Int) : (strsI l).length = l.length := by simp [strsI]
theorem strsI_take {l : List Int} {k : Nat} (hk : k < l.length) : strsI (l.take (k + 1)) = strsI (l.take k) ++ [⟨(itoa (l.getD k 0)).toArray⟩] := by
  unfold strsI
  rw [List.take_succ_eq_append_getElem hk, List.map_append]
  congr 1
  simp [List.getD, hk]
theorem strsI_data (l : List Int) : (strsI l).map (·.data.toList) = itoas l := by simp [strsI, itoas]

set_option maxHeartbeats 1000000 in
theorem impl_joinInts_any (g o n cp : Nat) (l : List Int) (w : World) (hn : l.length = n) (hl : l.length ≤ 1048576) (h64 : I64s l) (hg : g < w.heap.size) (hc : Cells w g o l) (ht : Tab w) :
    Calls Tryz.prog 44 #[(Value.slice (some ⟨g, o, none⟩) n cp), .string ⟨#[44]⟩] w (Gives w (.string ⟨(weightL l).toArray⟩)) := by
  subst hn
  have H64 := Lib.hid h64; have Ht := Lib.hid ht
  have Hsep := Lib.hid (show (join (itoas l) [44]).length ≤ 140737488355328 from by have := weightL_len h64; unfold weightL at this; omega)
  clear h64 ht
  generalize hS : (⟨(weightL l).toArray⟩ : ByteArray) = S
  have HS : Hid ((⟨(join (itoas l) [44]).toArray⟩ : ByteArray) = S) := Lib.hid hS
  clear hS
  go_enter Tryz.func44, Tryz.ntmps44
  go_wp2
  go_loopw [5, 11] (fun ov kv wr => ∃ (k g2 c2 : Nat), k ≤ l.length ∧ kv = .int .i64 k ∧ ov = (Value.slice (some ⟨g2, 0, none⟩) k c2) ∧ OwnStrs wr w.heap.size g2 c2 (strsI (l.take k)) ∧ Below w.heap.size w wr) (fun _ kv _ => l.length - (intOf kv).toNat)
  case atStart => exact ⟨0, _, 0, Nat.zero_le _, rfl, rfl, OwnStrs.empty (Nat.le_refl _), (Below.refl _ _).alloc (Nat.le_refl _) _⟩
  case round =>
    obtain ⟨k, g2, c2, hk, rfl, rfl, ho, hb⟩ := hrel
    by_cases hlt : k < l.length
    · have q1 := (hb.cell (p := ⟨g, o + k, none⟩) hg).trans (hc k hlt)
      have hts := strsI_take hlt
      have hcall := impl_FormatInt_any (l.getD k 0) (H64.out.at hlt) wr (Ht.out.below hb)
      have htl : (strsI (l.take k)).length = k := by rw [strsI_length, List.length_take]; omega
      generalize (⟨(itoa (l.getD k 0)).toArray⟩ : ByteArray) = s at *
      generalize l.getD k 0 = i at *
      have Hcall := Lib.hid hcall; have Hts := Lib.hid hts; have Htl := Lib.hid htl
      clear hcall hts htl
      go_wp2_with fail
      refine Hcall.out.mono ?_
      rintro e w1 ⟨rfl, hb1⟩
      have ho1 : OwnStrs w1 w.heap.size g2 c2 (strsI (l.take k)) := OwnK.below ho hb1 (OwnK.lt ho)
      have hb1' := hb.trans (hb1.mono hb.size)
      clear ho hb hb1
      go_wp2_with (at_builtin; refine wpList_append_str rfl _ _ rfl w.heap.size g2 c2 k w1.heap.size (strsI (l.take k)) s w1 _ Htl.out rfl rfl ho1 rfl rfl (by omega) ?_)
      intro g3 c3 w3 ho3 hg3 hor3
      have hb3 : Below w.heap.size w w3 := hb1'.grown hg3 hb1'.size (by intro t ht; cases ht; exact OwnK.base ho1)
      rw [← Hts.out] at ho3
      clear ho1 hg3
      go_wp2_with fail
      go_roundw
      case rel => exact ⟨k + 1, g3, c3, by omega, by go_num, rfl, ho3, hb3⟩
      case measure => simp [intOf]; omega
    · obtain rfl : k = l.length := by omega
      rw [List.take_length] at ho
      have hj := Any.strings_Join Tryz.lays156 Tryz.Builder_Extra_156 g2 0 c2 (strsI l) ⟨#[44]⟩ wr ho.cell (OwnK.lt ho) (by rw [strsI_length]; omega) ho.capLe (by rw [strsI_data]; exact Hsep.out)
      change Calls Tryz.prog 52 _ _ _ at hj
      have e44 : (⟨#[44]⟩ : ByteArray).data.toList = [44] := rfl
      rw [strsI_data, strsI_length, e44, HS.out] at hj
      have Hj := Lib.hid hj
      clear hj ho
      go_wp2_with fail
      refine Hj.out.mono ?_
      rintro e w4 ⟨rfl, hb4⟩
      have hB := hb.trans (hb4.mono hb.size)
      go_wp2_with fail
      go_ret
      exact ⟨rfl, hB⟩
theorem impl_FormatWeight_any (g o n cp : Nat) (l : List Int) (w : World) (hn : l.length = n) (hl : l.length ≤ 1048576) (h64 : I64s l) (hg : g < w.heap.size) (hc : Cells w g o l) (ht : Tab w) :
    Calls Tryz.prog 21 #[(Value.slice (some ⟨g, o, none⟩) n cp)] w (Gives w (.string ⟨(weightL l).toArray⟩)) := by
  have hcall := impl_joinInts_any g o n cp l w hn hl h64 hg hc ht
  have Hcall := Lib.hid hcall
  generalize (⟨(weightL l).toArray⟩ : ByteArray) = s at *
  clear hcall hc ht
  go_enter Tryz.func21, Tryz.ntmps21
  go_wp2_with fail
  refine Hcall.out.mono ?_
  rintro e w1 ⟨rfl, hb1⟩
  go_wp2_with fail
  go_ret
  exact ⟨rfl, hb1⟩

def strsW (l : List (List Int)) : List ByteArray := l.map fun r => ⟨(weightL r).toArray⟩
theorem strsW_length (l : List (List Int)) : (strsW l).length = l.length := by simp [strsW]
theorem strsW_take {l : List (List Int)} {k : Nat} (hk : k < l.length) : strsW (l.take (k + 1)) = strsW (l.take k) ++ [⟨(weightL (l.getD k [])).toArray⟩] := by
  unfold strsW
  rw [List.take_succ_eq_append_getElem hk, List.map_append]
  congr 1
  simp [List.getD, hk]
theorem strsW_data (l : List (List Int)) : (strsW l).map (·.data.toList) = l.map weightL := by simp [strsW]

/-! ### bytes of the call's own -/
end Go.Proofs.YtmjneokgnnbekaaGreatDoor
namespace Go.Proofs.YtmjneokgnnbekaaGreatDoor
set_option maxRecDepth 100000
open Go.RowKit
open Go.Lib (join decDigits itoa)

def strs (L : List (List UInt8)) : List ByteArray := L.map fun l => ⟨l.toArray⟩
theorem strs_data (L : List (List UInt8)) : (strs L).map (·.data.toList) = L := by
  unfold strs
  rw [List.map_map]
  have : ((fun x : ByteArray => x.data.toList) ∘ fun l : List UInt8 => ⟨l.toArray⟩) = id := by funext l; simp
  rw [this, List.map_id]
theorem joinS {w : World} {B g c n : Nat} {L : List (List UInt8)} (ho : OwnStrs w B g c (strs L)) (hn : L.length = n) (hN : n ≤ 1048576) (hl : (join L [32]).length ≤ 140737488355328) :
    Calls Tryz.prog 52 #[(Value.slice (some ⟨g, 0, none⟩) n c), .string ⟨#[32]⟩] w (Gives w (.string ⟨(join L [32]).toArray⟩)) := by
  subst hn
  have e44 : (⟨#[32]⟩ : ByteArray).data.toList = [32] := rfl
  have hsl : (strs L).length = L.length := by simp [strs]
  have hj := Any.strings_Join Tryz.lays156 Tryz.Builder_Extra_156 g 0 c (strs L) ⟨#[32]⟩ w ho.cell (OwnK.lt ho) (by omega) ho.capLe (by rw [strs_data, e44]; exact hl)
  change Calls Tryz.prog 52 _ _ _ at hj
  rw [strs_data, e44, hsl] at hj
  exact hj
theorem step_append_strs {ops : Array Oper} {o : Oper} {a : Act} {K : Act → World → Prop} {Q : Exit → Act → World → Prop} {E : Prop} (hgd : o.guard = none) (s x : Operand)
    (ho : o.op = .call { callee := .builtin .append, args := #[s, x], argTypes := #[41, 41] })
    (B B2 g cap n g2 c2 k : Nat) (xs ys : List ByteArray) (W : World) (hn : xs.length = n) (hk : ys.length = k) (hown : OwnStrs W B g cap xs) (hnew : OwnStrs W B2 g2 c2 ys) (hs : a.eval s = (Value.slice (some ⟨g, 0, none⟩) n cap)) (hx : a.eval x = (Value.slice (some ⟨g2, 0, none⟩) k c2)) (hlen : n + k ≤ 1048576)
    (h : ∀ g' cap' w', OwnStrs w' B g' cap' (xs ++ ys) → W.grownBy w' (some g) → (g' = g ∨ g' = W.heap.size) → K (a.put o.dst (Value.slice (some ⟨g', 0, none⟩) (n + k) cap')) w') :
    if Region.wanted o (yielded ops a.tmps) = true then Oper.wp Tryz.prog o a W K Q else E := by
  subst hn; subst hk
  have hw : Region.wanted o (yielded ops a.tmps) = true := by simp [Region.wanted, hgd]
  rw [if_pos hw]
  obtain ⟨g', cap', w', hr, h1, h2, h3⟩ := run_append_K infoStr Tryz.underlying41 rfl (by decide) (by decide) hown g2 0 ys.length c2 (ys.map Value.string) (by simp) (fun j u hu => by
    have hj : j < ys.length := by have := (List.getElem?_eq_some_iff.1 hu).1; simpa using this
    have h := hnew.cell j ys[j] (by simp [hj])
    rw [h, ← hu]
    simp [hj]) (fun u hu => by obtain ⟨b, -, rfl⟩ := List.mem_map.1 hu; rfl) hlen o.type
  unfold Oper.wp execOp
  simp only [ho, resolve, invoke, builtin, Sem.run_bind, Sem.run_pure, Result.andThen_ok, List.map_toArray, List.map_cons, List.map_nil, hs, hx, hr]
  refine h g' cap' w' ?_ h2 h3
  unfold OwnStrs
  rw [List.map_append, List.length_append]
  exact h1
theorem OwnStrs.two {w w1 w2 : World} {B g cap : Nat} {xs : List ByteArray} (h : OwnStrs w B g cap xs) (h1 : Below w.heap.size w w1) (h2 : Below w1.heap.size w1 w2) : OwnStrs w2 B g cap xs := by
  have a : OwnStrs w1 B g cap xs := OwnK.below h h1 (OwnK.lt h)
  exact OwnK.below a h2 (OwnK.lt a)
theorem OwnStrs.over {w : World} {B g cap : Nat} {xs : List ByteArray} (h : OwnStrs w B g cap xs) (o : Obj) : OwnStrs (w.alloc o) B g cap xs := OwnK.alloc h o
theorem own_three (w : World) (B : Nat) (a b c : List UInt8) (hB : B ≤ w.heap.size) : OwnStrs (w.alloc (.cells #[.string ⟨a.toArray⟩, .string ⟨b.toArray⟩, .string ⟨c.toArray⟩] 9)) B w.heap.size 3 (strs [a, b, c]) :=
  World.ownsRow_lit w #[.string ⟨a.toArray⟩, .string ⟨b.toArray⟩, .string ⟨c.toArray⟩] 3 hB (by decide) rfl
theorem impl_line_any {w : World} {B g c n : Nat} {L : List (List UInt8)} (ho : OwnStrs w B g c (strs L)) (hn : L.length = n) (hN : n ≤ 1048576) (hl : (join L [32]).length ≤ 140737488355328) :
    Calls Tryz.prog 27 #[(Value.slice (some ⟨g, 0, none⟩) n c)] w (Gives w (.string ⟨(join L [32]).toArray⟩)) := by
  have hcall := joinS ho hn hN hl
  have Hcall := Lib.hid hcall
  clear hcall hl ho
  generalize (⟨(join L [32]).toArray⟩ : ByteArray) = s at *
  go_enter Tryz.func27, Tryz.ntmps27
  go_wp2_with fail
  refine Hcall.out.mono ?_
  rintro e w1 ⟨rfl, hb1⟩
  go_wp2_with fail
  go_ret
  exact ⟨rfl, hb1⟩
end Go.Proofs.YtmjneokgnnbekaaGreatDoor
