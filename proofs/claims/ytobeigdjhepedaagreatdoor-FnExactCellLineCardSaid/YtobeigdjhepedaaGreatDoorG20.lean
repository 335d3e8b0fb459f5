/- SizeByName of the reference at names of parts: contract. SizeOf and DeterminantOf of both: contracts. Every finite type of rank at most 4 is one of those enumerated: what holds at these (checked by the kernel) holds at all. Plain law. -/
import Derived.Test.YtobeigdjhepedaaGreatDoorG19
import Derived.Test.YtobeigdjhepedaaGreatDoorG16
namespace Go.Proofs.YtobeigdjhepedaaGreatDoor
set_option maxRecDepth 100000
open Go.RowKit
open Go.Lib (join)

theorem cut_names {c : UInt8} {L : List Bs} (hL : L ≠ []) (h : ∀ x ∈ L, c ∉ x) :
    (cutN c (join L [c]) (join L [c]).length).1 ++ [(cutN c (join L [c]) (join L [c]).length).2] = L := by
  have e := cut_join c L [] hL h
  unfold cutN
  rw [List.take_length]
  exact e

set_option maxHeartbeats 2000000 in
theorem spec_SizeByName_ok (L : List Bs) (w : World) (hL : L ≠ []) (hl4 : L.length ≤ 4) (h : ∀ s ∈ L, s ∈ names17) :
    Calls Tryz.prog 81 #[.string ⟨(join L [120]).toArray⟩] w (Gives w (.int .i64 (prodT L))) := by
  have hj := join_len 120 L (fun x hx => (names_noX _ (h x hx)).2.1)
  have hs := spec_l2Cut_ok (join L [120]) 120 w (by omega)
  have hcut := cut_names hL (fun x hx => (names_noX _ (h x hx)).1)
  have hlen : (cutN 120 (join L [120]) (join L [120]).length).1.length + 1 = L.length := by
    have := congrArg List.length hcut
    rw [List.length_append] at this
    exact this
  rw [hcut, hlen] at hs
  have HS := Lib.hid hs
  have HM := Lib.hid (fun k (hk : k < L.length) => h (L.getD k []) (by simp [List.getD, hk]))
  have HB := Lib.hid (fun k (hk : k ≤ L.length) => prodT_bound h k hk)
  have HP := Lib.hid (fun k (hk : k < L.length) => prodT_succ L k hk)
  have HA : Hid (prodT (L.take L.length) = prodT L) := Lib.hid (by rw [List.take_length])
  clear hs h hcut hlen hj
  generalize prodT L = R at *
  generalize (⟨(join L [120]).toArray⟩ : ByteArray) = nm at *
  go_enter Tryz.func81, Tryz.ntmps81
  go_wp2_with fail
  refine HS.out.mono ?_
  rintro e w1 ⟨g1, c1, rfl, ho1, hb1⟩
  clear HS
  go_wp2_with fail
  go_loopw [4, 5, 6] (fun zv kv _ wr => ∃ k : Nat, k ≤ L.length ∧ kv = .int .i64 k ∧ zv = .int .i64 (prodT (L.take k)) ∧ Below w1.heap.size w1 wr) (fun _ kv _ _ => L.length - (intOf kv).toNat)
  case atStart => exact ⟨0, Nat.zero_le _, rfl, rfl, Below.refl _ _⟩
  case round =>
    obtain ⟨k, hk, rfl, rfl, hb⟩ := hrel
    by_cases hlt : k < L.length
    · have hcell := ho1.cell k ⟨(L.getD k []).toArray⟩ (by simp [strs, List.getD, hlt])
      rw [Nat.zero_add] at hcell
      have hcellr := (hb.cell (p := ⟨g1, k, none⟩) (OwnK.lt ho1)).trans hcell
      have hm := HM.out k hlt
      have hpk := HP.out k hlt
      have hbk := HB.out (k + 1) hlt
      have hpw := pw_le (k := k + 1) (by omega)
      rw [hpk] at hbk
      have hw : wrap64 (prodT (L.take k) * sizeT (L.getD k [])) = prodT (L.take k) * sizeT (L.getD k []) := IntWalk.wrap64_in _ ⟨by omega, by omega⟩
      have Hpk := Lib.hid hpk
      clear hpk hcell
      generalize L.getD k [] = s at *
      generalize prodT (L.take k) = x at *
      generalize pw (k + 1) = P at *
      have hN : names17.length = 18 := rfl
      obtain ⟨q, hq, e⟩ := List.mem_iff_getElem.1 hm
      have e2 : names17.getD q [] = s := by simp [List.getD, hq, e]
      rw [hN] at hq
      have hq18 : q = 0 ∨ q = 1 ∨ q = 2 ∨ q = 3 ∨ q = 4 ∨ q = 5 ∨ q = 6 ∨ q = 7 ∨ q = 8 ∨ q = 9 ∨ q = 10 ∨ q = 11 ∨ q = 12 ∨ q = 13 ∨ q = 14 ∨ q = 15 ∨ q = 16 ∨ q = 17 := by omega
      clear e hm hN hq
      subst e2
      rcases hq18 with rfl | rfl | rfl | rfl | rfl | rfl | rfl | rfl | rfl | rfl | rfl | rfl | rfl | rfl | rfl | rfl | rfl | rfl
      · have e : sizeT (names17.getD 0 []) = 2 := by decide
        rw [e] at hw Hpk hbk
        clear e
        go_wp2_with fail
        exact ⟨⟨k + 1, by omega, rfl, by rw [Hpk.out], hb⟩, by simp only [intOf]; omega⟩
      · have e : sizeT (names17.getD 1 []) = 6 := by decide
        rw [e] at hw Hpk hbk
        clear e
        go_wp2_with fail
        exact ⟨⟨k + 1, by omega, rfl, by rw [Hpk.out], hb⟩, by simp only [intOf]; omega⟩
      · have e : sizeT (names17.getD 2 []) = 24 := by decide
        rw [e] at hw Hpk hbk
        clear e
        go_wp2_with fail
        exact ⟨⟨k + 1, by omega, rfl, by rw [Hpk.out], hb⟩, by simp only [intOf]; omega⟩
      · have e : sizeT (names17.getD 3 []) = 120 := by decide
        rw [e] at hw Hpk hbk
        clear e
        go_wp2_with fail
        exact ⟨⟨k + 1, by omega, rfl, by rw [Hpk.out], hb⟩, by simp only [intOf]; omega⟩
      · have e : sizeT (names17.getD 4 []) = 8 := by decide
        rw [e] at hw Hpk hbk
        clear e
        go_wp2_with fail
        exact ⟨⟨k + 1, by omega, rfl, by rw [Hpk.out], hb⟩, by simp only [intOf]; omega⟩
      · have e : sizeT (names17.getD 5 []) = 48 := by decide
        rw [e] at hw Hpk hbk
        clear e
        go_wp2_with fail
        exact ⟨⟨k + 1, by omega, rfl, by rw [Hpk.out], hb⟩, by simp only [intOf]; omega⟩
      · have e : sizeT (names17.getD 6 []) = 384 := by decide
        rw [e] at hw Hpk hbk
        clear e
        go_wp2_with fail
        exact ⟨⟨k + 1, by omega, rfl, by rw [Hpk.out], hb⟩, by simp only [intOf]; omega⟩
      · have e : sizeT (names17.getD 7 []) = 48 := by decide
        rw [e] at hw Hpk hbk
        clear e
        go_wp2_with fail
        exact ⟨⟨k + 1, by omega, rfl, by rw [Hpk.out], hb⟩, by simp only [intOf]; omega⟩
      · have e : sizeT (names17.getD 8 []) = 384 := by decide
        rw [e] at hw Hpk hbk
        clear e
        go_wp2_with fail
        exact ⟨⟨k + 1, by omega, rfl, by rw [Hpk.out], hb⟩, by simp only [intOf]; omega⟩
      · have e : sizeT (names17.getD 9 []) = 192 := by decide
        rw [e] at hw Hpk hbk
        clear e
        go_wp2_with fail
        exact ⟨⟨k + 1, by omega, rfl, by rw [Hpk.out], hb⟩, by simp only [intOf]; omega⟩
      · have e : sizeT (names17.getD 10 []) = 1152 := by decide
        rw [e] at hw Hpk hbk
        clear e
        go_wp2_with fail
        exact ⟨⟨k + 1, by omega, rfl, by rw [Hpk.out], hb⟩, by simp only [intOf]; omega⟩
      · have e : sizeT (names17.getD 11 []) = 12 := by decide
        rw [e] at hw Hpk hbk
        clear e
        go_wp2_with fail
        exact ⟨⟨k + 1, by omega, rfl, by rw [Hpk.out], hb⟩, by simp only [intOf]; omega⟩
      · have e : sizeT (names17.getD 12 []) = 0 := by decide
        rw [e] at hw Hpk hbk
        clear e
        go_wp2_with fail
        exact ⟨⟨k + 1, by omega, rfl, by rw [Hpk.out]; simp, hb⟩, by simp only [intOf]; omega⟩
      · have e : sizeT (names17.getD 13 []) = 0 := by decide
        rw [e] at hw Hpk hbk
        clear e
        go_wp2_with fail
        exact ⟨⟨k + 1, by omega, rfl, by rw [Hpk.out]; simp, hb⟩, by simp only [intOf]; omega⟩
      · have e : sizeT (names17.getD 14 []) = 0 := by decide
        rw [e] at hw Hpk hbk
        clear e
        go_wp2_with fail
        exact ⟨⟨k + 1, by omega, rfl, by rw [Hpk.out]; simp, hb⟩, by simp only [intOf]; omega⟩
      · have e : sizeT (names17.getD 15 []) = 0 := by decide
        rw [e] at hw Hpk hbk
        clear e
        go_wp2_with fail
        exact ⟨⟨k + 1, by omega, rfl, by rw [Hpk.out]; simp, hb⟩, by simp only [intOf]; omega⟩
      · have e : sizeT (names17.getD 16 []) = 0 := by decide
        rw [e] at hw Hpk hbk
        clear e
        go_wp2_with fail
        exact ⟨⟨k + 1, by omega, rfl, by rw [Hpk.out]; simp, hb⟩, by simp only [intOf]; omega⟩
      · have e : sizeT (names17.getD 17 []) = 0 := by decide
        rw [e] at hw Hpk hbk
        clear e
        go_wp2_with fail
        exact ⟨⟨k + 1, by omega, rfl, by rw [Hpk.out]; simp, hb⟩, by simp only [intOf]; omega⟩
    · obtain rfl : k = L.length := by omega
      rw [HA.out]
      have hb9 := hb1.trans (hb.mono hb1.size)
      go_wp2_with fail
      go_ret
      exact ⟨rfl, hb9⟩
end Go.Proofs.YtobeigdjhepedaaGreatDoor
namespace Go.Proofs.YtobeigdjhepedaaGreatDoor
set_option maxRecDepth 100000
open Go.RowKit
open Go.Lib (join)

def part1 (c : List (List Int)) : Bool := decide (1 ≤ (partsL c).length)
theorem part1_1 : part1 [[1]] = true := by kernel_rfl
theorem part1_2 : (Z2.all fun a => part1 (zm2 a)) = true := by kernel_rfl
theorem part1_3 : (Z2.all fun a => Z2.all fun b => Z2.all fun e => part1 (zm3 a b e)) = true := by kernel_rfl
theorem part1_4 : (Z2.all fun a => Z2.all fun b => Z2.all fun d => Z2.all fun e => Z2.all fun f => Z2.all fun g => part1 (zm4 a b d e f g)) = true := by kernel_rfl
theorem parts_pos {c : List (List Int)} (hC : IsC c) : 1 ≤ (partsL c).length := by
  have h := zo_all part1 part1_1 part1_2 part1_3 part1_4 hC
  unfold part1 at h
  rw [partsL_zo] at h
  exact of_decide_eq_true h
theorem nameL_len {c : List (List Int)} (hC : IsC c) : nameL c ≠ [] ∧ (nameL c).length ≤ 4 ∧ ∀ s ∈ nameL c, s ∈ names17 := by
  obtain ⟨seen, hP⟩ := parts_are hC
  have h1 := parts_pos hC
  have h2 := hP.len
  have e : (nameL c).length = (partsL c).length := by unfold nameL; rw [List.length_map]
  refine ⟨fun h => ?_, by omega, fun s hs => ?_⟩
  · rw [h, List.length_nil] at e; omega
  · obtain ⟨p, -, rfl⟩ := List.mem_map.1 hs
    exact nameP_mem _
/-- the size of the group, 0 if it is not finite -/
def szO (c : List (List Int)) : Int := if finB c = true then prodT (nameL c) else 0
theorem szO_bound (c : List (List Int)) : 0 ≤ szO c ∧ szO c ≤ 1761205026816 := by
  unfold szO
  split
  · rename_i hf
    have hC : IsC c := by unfold finB at hf; exact of_decide_eq_true (Bool.and_eq_true_iff.1 hf).1
    obtain ⟨h1, h2, h3⟩ := nameL_len hC
    have h := prodT_bound h3 (nameL c).length (Nat.le_refl _)
    rw [List.take_length] at h
    have := pw_le h2
    omega
  · omega
theorem fin_isC {c : List (List Int)} (hf : finB c = true) : IsC c := by unfold finB at hf; exact of_decide_eq_true (Bool.and_eq_true_iff.1 hf).1

set_option maxHeartbeats 1000000 in
theorem impl_SizeOf_any (gc oc n cc : Nat) (c : List (List Int)) (w : World) (hn : c.length = n) (hx : c.length ≤ 1048576) (hrl : ∀ j, j < c.length → (c.getD j []).length ≤ 1048576) (hgc : gc < w.heap.size) (hr : Rows2 w gc oc c) (hm : MaxL w) :
    Calls Tryz.prog 45 #[(Value.slice (some ⟨gc, oc, none⟩) n cc)] w (Gives w (.int .i64 (szO c))) := by
  have HF := impl_IsFinite_any gc oc n cc c w hn hx hrl hgc hr
  by_cases hf : finB c = true
  · have hC := fin_isC hf
    have hs : szO c = prodT (nameL c) := if_pos hf
    obtain ⟨h1, h2, h3⟩ := nameL_len hC
    have HN := Lib.hid (fun W (hW : Below w.heap.size w W) => impl_NameOf_ok gc oc n cc c W hn hC (Nat.lt_of_lt_of_le hgc hW.size) (hr.below hW hgc) (hm.below hW))
    have HZ := Lib.hid (fun W (hW : Below w.heap.size w W) => impl_SizeByName_ok (nameL c) W h1 h2 h3 (hm.below hW))
    rw [hf] at HF
    rw [hs]
    clear h1 h2 h3 hs hf hx hrl hn hr
    generalize prodT (nameL c) = R at *
    generalize (⟨(join (nameL c) [120]).toArray⟩ : ByteArray) = nm at *
    go_enter Tryz.func45, Tryz.ntmps45
    go_wp2_with fail
    refine HF.mono ?_
    rintro e w1 ⟨rfl, hb1⟩
    go_wp2_with fail
    refine (HN.out w1 hb1).mono ?_
    rintro e w2 ⟨rfl, hb2⟩
    have hb3 := hb1.trans (hb2.mono hb1.size)
    go_wp2_with fail
    refine (HZ.out w2 hb3).mono ?_
    rintro e w4 ⟨rfl, hb4⟩
    have hb5 := hb3.trans (hb4.mono hb3.size)
    go_wp2_with fail
    go_ret
    exact ⟨rfl, hb5⟩
  · have hf' : finB c = false := by simpa using hf
    have hs : szO c = 0 := if_neg hf
    rw [hs]
    rw [hf'] at HF
    clear hs hf hf' hx hrl hn hr
    go_enter Tryz.func45, Tryz.ntmps45
    go_wp2_with fail
    refine HF.mono ?_
    rintro e w1 ⟨rfl, hb1⟩
    go_wp2_with fail
    go_ret
    exact ⟨rfl, hb1⟩

set_option maxHeartbeats 1000000 in
theorem spec_SizeOf_any (gc oc n cc : Nat) (c : List (List Int)) (w : World) (hn : c.length = n) (hx : c.length ≤ 1048576) (hrl : ∀ j, j < c.length → (c.getD j []).length ≤ 1048576) (hgc : gc < w.heap.size) (hr : Rows2 w gc oc c) :
    Calls Tryz.prog 40 #[(Value.slice (some ⟨gc, oc, none⟩) n cc)] w (Gives w (.int .i64 (szO c))) := by
  have HF := spec_IsFinite_any gc oc n cc c w hn hx hrl hgc hr
  by_cases hf : finB c = true
  · have hC := fin_isC hf
    have hs : szO c = prodT (nameL c) := if_pos hf
    obtain ⟨h1, h2, h3⟩ := nameL_len hC
    have HN := Lib.hid (fun W (hW : Below w.heap.size w W) => spec_NameOf_ok gc oc n cc c W hn hC (Nat.lt_of_lt_of_le hgc hW.size) (hr.below hW hgc))
    have HZ := Lib.hid (fun W => spec_SizeByName_ok (nameL c) W h1 h2 h3)
    rw [hf] at HF
    rw [hs]
    clear h1 h2 h3 hs hf hx hrl hn hr
    generalize prodT (nameL c) = R at *
    generalize (⟨(join (nameL c) [120]).toArray⟩ : ByteArray) = nm at *
    go_enter Tryz.func40, Tryz.ntmps40
    go_wp2_with fail
    refine HF.mono ?_
    rintro e w1 ⟨rfl, hb1⟩
    go_wp2_with fail
    refine (HN.out w1 hb1).mono ?_
    rintro e w2 ⟨rfl, hb2⟩
    have hb3 := hb1.trans (hb2.mono hb1.size)
    go_wp2_with fail
    refine (HZ.out w2).mono ?_
    rintro e w4 ⟨rfl, hb4⟩
    have hb5 := hb3.trans (hb4.mono hb3.size)
    go_wp2_with fail
    go_ret
    exact ⟨rfl, hb5⟩
  · have hf' : finB c = false := by simpa using hf
    have hs : szO c = 0 := if_neg hf
    rw [hs]
    rw [hf'] at HF
    clear hs hf hf' hx hrl hn hr
    go_enter Tryz.func40, Tryz.ntmps40
    go_wp2_with fail
    refine HF.mono ?_
    rintro e w1 ⟨rfl, hb1⟩
    go_wp2_with fail
    go_ret
    exact ⟨rfl, hb1⟩

theorem isC_sq {c : List (List Int)} (hC : IsC c) : Sq c.length c := ⟨rfl, hC.2.2.1, ent_bound hC⟩
end Go.Proofs.YtobeigdjhepedaaGreatDoor
namespace Go.Proofs.YtobeigdjhepedaaGreatDoor
set_option maxRecDepth 100000
open Go.RowKit

def L6 : List (Int × Int) := [(0, 0), (-1, -1), (-1, -2), (-2, -1), (-1, -3), (-3, -1)]
def mat2 (a : Int × Int) : List (List Int) := [[2, a.1], [a.2, 2]]
def mat3 (a b e : Int × Int) : List (List Int) := [[2, a.1, b.1], [a.2, 2, e.1], [b.2, e.2, 2]]
def mat4 (a b d e f g : Int × Int) : List (List Int) := [[2, a.1, b.1, d.1], [a.2, 2, e.1, f.1], [b.2, e.2, 2, g.1], [d.2, f.2, g.2, 2]]
def bad3 (a b e : Int × Int) : Bool := decide (det 3 (mat3 a b e) ≤ 0)
def chk2 (P : List (List Int) → Bool) : Bool := L6.all fun a => P (mat2 a)
def chk3 (P : List (List Int) → Bool) : Bool := L6.all fun a => L6.all fun b => L6.all fun e => bad3 a b e || P (mat3 a b e)
def chk4 (P : List (List Int) → Bool) : Bool := L6.all fun a => L6.all fun b => L6.all fun e => bad3 a b e || L6.all fun d => L6.all fun f => bad3 a d f || L6.all fun g => bad3 b d g || (bad3 e f g || (decide (det 4 (mat4 a b d e f g) ≤ 0) || P (mat4 a b d e f g)))
def chk4At (P : List (List Int) → Bool) (a b : Int × Int) : Bool := L6.all fun e => bad3 a b e || L6.all fun d => L6.all fun f => bad3 a d f || L6.all fun g => bad3 b d g || (bad3 e f g || (decide (det 4 (mat4 a b d e f g) ≤ 0) || P (mat4 a b d e f g)))
theorem chk4_eq (P : List (List Int) → Bool) : chk4 P = L6.all fun a => L6.all fun b => chk4At P a b := rfl
theorem list1 {α : Type} {l : List α} (h : l.length = 1) : ∃ a, l = [a] := by
  match l, h with
  | [a], _ => exact ⟨a, rfl⟩
theorem list2 {α : Type} {l : List α} (h : l.length = 2) : ∃ a b, l = [a, b] := by
  match l, h with
  | [a, b], _ => exact ⟨a, b, rfl⟩
theorem list3 {α : Type} {l : List α} (h : l.length = 3) : ∃ a b c, l = [a, b, c] := by
  match l, h with
  | [a, b, c], _ => exact ⟨a, b, c, rfl⟩
theorem list4 {α : Type} {l : List α} (h : l.length = 4) : ∃ a b c d, l = [a, b, c, d] := by
  match l, h with
  | [a, b, c, d], _ => exact ⟨a, b, c, d, rfl⟩
theorem witFrom_pos {c : List (List Int)} : ∀ (f m : Nat), 1 ≤ m → m + f ≤ 16 → (witFrom c m f).length = 0 → ∀ k, m ≤ k → k < m + f → 0 < minorAt c k := by
  intro f
  induction f with
  | zero => intro m _ _ _ k h1 h2; omega
  | succ f ih =>
    intro m hm hf h k h1 h2
    unfold witFrom at h
    split at h
    · have := setL_ne m hm (by omega); omega
    · rename_i hd
      by_cases e : k = m
      · subst e; omega
      · exact ih (m + 1) (by omega) (by omega) h k (by omega) (by omega)
theorem fin_pos {c : List (List Int)} (hC : IsC c) (hf : finB c = true) : ∀ k, 1 ≤ k → k < 2 ^ c.length → 0 < minorAt c k := by
  intro k h1 h2
  have h16 := pow_le16 hC.2.1
  unfold finB at hf
  rw [Bool.and_eq_true] at hf
  have hw : (witness c).length = 0 := by simpa using hf.2
  unfold witness at hw
  rw [if_pos hC] at hw
  exact witFrom_pos (2 ^ c.length - 1) 1 (Nat.le_refl _) (by omega) hw k h1 (by omega)
theorem pair_ok : ∀ x ∈ [(-3 : Int), -2, -1, 0], ∀ y ∈ [(-3 : Int), -2, -1, 0], decide (x = 0) = decide (y = 0) → 0 < det 2 (mat2 (x, y)) → (x, y) ∈ L6 := by decide
theorem pair_in {x y : Int} (h1 : -3 ≤ x ∧ x ≤ 0) (h2 : -3 ≤ y ∧ y ≤ 0) (h3 : decide (x = 0) = decide (y = 0)) (h : 0 < det 2 (mat2 (x, y))) : (x, y) ∈ L6 := by
  have hx : x ∈ [(-3 : Int), -2, -1, 0] := by
    have : x = -3 ∨ x = -2 ∨ x = -1 ∨ x = 0 := by omega
    rcases this with rfl | rfl | rfl | rfl <;> simp
  have hy : y ∈ [(-3 : Int), -2, -1, 0] := by
    have : y = -3 ∨ y = -2 ∨ y = -1 ∨ y = 0 := by omega
    rcases this with rfl | rfl | rfl | rfl <;> simp
  exact pair_ok x hx y hy h3 h
theorem ent_diag {c : List (List Int)} (hC : IsC c) {i : Nat} (hi : i < c.length) : ent c i i = 2 := by
  have := hC.2.2.2 i hi i hi
  unfold EntOk at this
  rwa [if_pos rfl] at this
theorem ent_off {c : List (List Int)} (hC : IsC c) {i j : Nat} (hi : i < c.length) (hj : j < c.length) (hne : i ≠ j) : (-3 ≤ ent c i j ∧ ent c i j ≤ 0) ∧ decide (ent c i j = 0) = decide (ent c j i = 0) := by
  have := hC.2.2.2 i hi j hj
  unfold EntOk at this
  rw [if_neg hne] at this
  exact ⟨⟨this.1, this.2.1⟩, this.2.2⟩

theorem m2_3 (a : Int × Int) : minorAt (mat2 a) 3 = det 2 (mat2 a) := by kernel_rfl
theorem m3_3 (a b e : Int × Int) : minorAt (mat3 a b e) 3 = det 2 (mat2 a) := by kernel_rfl
theorem m3_5 (a b e : Int × Int) : minorAt (mat3 a b e) 5 = det 2 (mat2 b) := by kernel_rfl
theorem m3_6 (a b e : Int × Int) : minorAt (mat3 a b e) 6 = det 2 (mat2 e) := by kernel_rfl
theorem m3_7 (a b e : Int × Int) : minorAt (mat3 a b e) 7 = det 3 (mat3 a b e) := by kernel_rfl
theorem m4_3 (a b d e f g : Int × Int) : minorAt (mat4 a b d e f g) 3 = det 2 (mat2 a) := by kernel_rfl
theorem m4_5 (a b d e f g : Int × Int) : minorAt (mat4 a b d e f g) 5 = det 2 (mat2 b) := by kernel_rfl
theorem m4_9 (a b d e f g : Int × Int) : minorAt (mat4 a b d e f g) 9 = det 2 (mat2 d) := by kernel_rfl
theorem m4_6 (a b d e f g : Int × Int) : minorAt (mat4 a b d e f g) 6 = det 2 (mat2 e) := by kernel_rfl
theorem m4_10 (a b d e f g : Int × Int) : minorAt (mat4 a b d e f g) 10 = det 2 (mat2 f) := by kernel_rfl
theorem m4_12 (a b d e f g : Int × Int) : minorAt (mat4 a b d e f g) 12 = det 2 (mat2 g) := by kernel_rfl
theorem m4_7 (a b d e f g : Int × Int) : minorAt (mat4 a b d e f g) 7 = det 3 (mat3 a b e) := by kernel_rfl
theorem m4_11 (a b d e f g : Int × Int) : minorAt (mat4 a b d e f g) 11 = det 3 (mat3 a d f) := by kernel_rfl
theorem m4_13 (a b d e f g : Int × Int) : minorAt (mat4 a b d e f g) 13 = det 3 (mat3 b d g) := by kernel_rfl
theorem m4_14 (a b d e f g : Int × Int) : minorAt (mat4 a b d e f g) 14 = det 3 (mat3 e f g) := by kernel_rfl
theorem m4_15 (a b d e f g : Int × Int) : minorAt (mat4 a b d e f g) 15 = det 4 (mat4 a b d e f g) := by kernel_rfl

theorem good_of_2 {P : List (List Int) → Bool} (h2 : chk2 P = true) {c : List (List Int)} (hC : IsC c) (hf : finB c = true) (hn : c.length = 2) : P c = true := by
  have hpos := fin_pos hC hf
  obtain ⟨r0, r1, rfl⟩ := list2 hn
  obtain ⟨x00, x01, rfl⟩ := list2 (hC.2.2.1 0 (by simp))
  obtain ⟨x10, x11, rfl⟩ := list2 (hC.2.2.1 1 (by simp))
  have d0 : x00 = 2 := ent_diag hC (i := 0) (by simp)
  have d1 : x11 = 2 := ent_diag hC (i := 1) (by simp)
  subst d0; subst d1
  have o01 := ent_off hC (i := 0) (j := 1) (by simp) (by simp) (by decide)
  have o10 := ent_off hC (i := 1) (j := 0) (by simp) (by simp) (by decide)
  have p01 : (x01, x10) ∈ L6 := pair_in o01.1 o10.1 o01.2 (by have h0 := hpos 3 (by decide) (by simp); have h1 := m2_3 (x01, x10); exact h1 ▸ h0)
  have h := h2
  unfold chk2 at h
  have h1 := List.all_eq_true.1 h _ p01
  exact h1

theorem good_of_3 {P : List (List Int) → Bool} (hK : chk3 P = true) {c : List (List Int)} (hC : IsC c) (hf : finB c = true) (hn : c.length = 3) : P c = true := by
  have hpos := fin_pos hC hf
  obtain ⟨r0, r1, r2, rfl⟩ := list3 hn
  obtain ⟨x00, x01, x02, rfl⟩ := list3 (hC.2.2.1 0 (by simp))
  obtain ⟨x10, x11, x12, rfl⟩ := list3 (hC.2.2.1 1 (by simp))
  obtain ⟨x20, x21, x22, rfl⟩ := list3 (hC.2.2.1 2 (by simp))
  have d0 : x00 = 2 := ent_diag hC (i := 0) (by simp)
  have d1 : x11 = 2 := ent_diag hC (i := 1) (by simp)
  have d2 : x22 = 2 := ent_diag hC (i := 2) (by simp)
  subst d0; subst d1; subst d2
  have o01 := ent_off hC (i := 0) (j := 1) (by simp) (by simp) (by decide)
  have o10 := ent_off hC (i := 1) (j := 0) (by simp) (by simp) (by decide)
  have o02 := ent_off hC (i := 0) (j := 2) (by simp) (by simp) (by decide)
  have o20 := ent_off hC (i := 2) (j := 0) (by simp) (by simp) (by decide)
  have o12 := ent_off hC (i := 1) (j := 2) (by simp) (by simp) (by decide)
  have o21 := ent_off hC (i := 2) (j := 1) (by simp) (by simp) (by decide)
  have p01 : (x01, x10) ∈ L6 := pair_in o01.1 o10.1 o01.2 (by have h0 := hpos 3 (by decide) (by simp); have h1 := m3_3 (x01, x10) (x02, x20) (x12, x21); exact h1 ▸ h0)
  have p02 : (x02, x20) ∈ L6 := pair_in o02.1 o20.1 o02.2 (by have h0 := hpos 5 (by decide) (by simp); have h1 := m3_5 (x01, x10) (x02, x20) (x12, x21); exact h1 ▸ h0)
  have p12 : (x12, x21) ∈ L6 := pair_in o12.1 o21.1 o12.2 (by have h0 := hpos 6 (by decide) (by simp); have h1 := m3_6 (x01, x10) (x02, x20) (x12, x21); exact h1 ▸ h0)
  have h7 : 0 < det 3 (mat3 (x01, x10) (x02, x20) (x12, x21)) := by have h0 := hpos 7 (by decide) (by simp); have h1 := m3_7 (x01, x10) (x02, x20) (x12, x21); exact h1 ▸ h0
  have h := hK
  unfold chk3 at h
  have h1 := List.all_eq_true.1 h _ p01
  have h2 := List.all_eq_true.1 h1 _ p02
  have h3 := List.all_eq_true.1 h2 _ p12
  have hb : bad3 (x01, x10) (x02, x20) (x12, x21) = false := by unfold bad3; rw [decide_eq_false_iff_not]; omega
  rw [hb, Bool.false_or] at h3
  exact h3

set_option maxHeartbeats 2000000 in
theorem good_of_4 {P : List (List Int) → Bool} (hK : chk4 P = true) {c : List (List Int)} (hC : IsC c) (hf : finB c = true) (hn : c.length = 4) : P c = true := by
  have hpos := fin_pos hC hf
  obtain ⟨r0, r1, r2, r3, rfl⟩ := list4 hn
  obtain ⟨x00, x01, x02, x03, rfl⟩ := list4 (hC.2.2.1 0 (by simp))
  obtain ⟨x10, x11, x12, x13, rfl⟩ := list4 (hC.2.2.1 1 (by simp))
  obtain ⟨x20, x21, x22, x23, rfl⟩ := list4 (hC.2.2.1 2 (by simp))
  obtain ⟨x30, x31, x32, x33, rfl⟩ := list4 (hC.2.2.1 3 (by simp))
  have d0 : x00 = 2 := ent_diag hC (i := 0) (by simp)
  have d1 : x11 = 2 := ent_diag hC (i := 1) (by simp)
  have d2 : x22 = 2 := ent_diag hC (i := 2) (by simp)
  have d3 : x33 = 2 := ent_diag hC (i := 3) (by simp)
  subst d0; subst d1; subst d2; subst d3
  have o01 := ent_off hC (i := 0) (j := 1) (by simp) (by simp) (by decide)
  have o10 := ent_off hC (i := 1) (j := 0) (by simp) (by simp) (by decide)
  have o02 := ent_off hC (i := 0) (j := 2) (by simp) (by simp) (by decide)
  have o20 := ent_off hC (i := 2) (j := 0) (by simp) (by simp) (by decide)
  have o03 := ent_off hC (i := 0) (j := 3) (by simp) (by simp) (by decide)
  have o30 := ent_off hC (i := 3) (j := 0) (by simp) (by simp) (by decide)
  have o12 := ent_off hC (i := 1) (j := 2) (by simp) (by simp) (by decide)
  have o21 := ent_off hC (i := 2) (j := 1) (by simp) (by simp) (by decide)
  have o13 := ent_off hC (i := 1) (j := 3) (by simp) (by simp) (by decide)
  have o31 := ent_off hC (i := 3) (j := 1) (by simp) (by simp) (by decide)
  have o23 := ent_off hC (i := 2) (j := 3) (by simp) (by simp) (by decide)
  have o32 := ent_off hC (i := 3) (j := 2) (by simp) (by simp) (by decide)
  have p01 : (x01, x10) ∈ L6 := pair_in o01.1 o10.1 o01.2 (by have h0 := hpos 3 (by decide) (by simp); have h1 := m4_3 (x01, x10) (x02, x20) (x03, x30) (x12, x21) (x13, x31) (x23, x32); exact h1 ▸ h0)
  have p02 : (x02, x20) ∈ L6 := pair_in o02.1 o20.1 o02.2 (by have h0 := hpos 5 (by decide) (by simp); have h1 := m4_5 (x01, x10) (x02, x20) (x03, x30) (x12, x21) (x13, x31) (x23, x32); exact h1 ▸ h0)
  have p12 : (x12, x21) ∈ L6 := pair_in o12.1 o21.1 o12.2 (by have h0 := hpos 6 (by decide) (by simp); have h1 := m4_6 (x01, x10) (x02, x20) (x03, x30) (x12, x21) (x13, x31) (x23, x32); exact h1 ▸ h0)
  have p03 : (x03, x30) ∈ L6 := pair_in o03.1 o30.1 o03.2 (by have h0 := hpos 9 (by decide) (by simp); have h1 := m4_9 (x01, x10) (x02, x20) (x03, x30) (x12, x21) (x13, x31) (x23, x32); exact h1 ▸ h0)
  have p13 : (x13, x31) ∈ L6 := pair_in o13.1 o31.1 o13.2 (by have h0 := hpos 10 (by decide) (by simp); have h1 := m4_10 (x01, x10) (x02, x20) (x03, x30) (x12, x21) (x13, x31) (x23, x32); exact h1 ▸ h0)
  have p23 : (x23, x32) ∈ L6 := pair_in o23.1 o32.1 o23.2 (by have h0 := hpos 12 (by decide) (by simp); have h1 := m4_12 (x01, x10) (x02, x20) (x03, x30) (x12, x21) (x13, x31) (x23, x32); exact h1 ▸ h0)
  have h7 : 0 < det 3 (mat3 (x01, x10) (x02, x20) (x12, x21)) := by have h0 := hpos 7 (by decide) (by simp); have h1 := m4_7 (x01, x10) (x02, x20) (x03, x30) (x12, x21) (x13, x31) (x23, x32); exact h1 ▸ h0
  have h11 : 0 < det 3 (mat3 (x01, x10) (x03, x30) (x13, x31)) := by have h0 := hpos 11 (by decide) (by simp); have h1 := m4_11 (x01, x10) (x02, x20) (x03, x30) (x12, x21) (x13, x31) (x23, x32); exact h1 ▸ h0
  have h13 : 0 < det 3 (mat3 (x02, x20) (x03, x30) (x23, x32)) := by have h0 := hpos 13 (by decide) (by simp); have h1 := m4_13 (x01, x10) (x02, x20) (x03, x30) (x12, x21) (x13, x31) (x23, x32); exact h1 ▸ h0
  have h14 : 0 < det 3 (mat3 (x12, x21) (x13, x31) (x23, x32)) := by have h0 := hpos 14 (by decide) (by simp); have h1 := m4_14 (x01, x10) (x02, x20) (x03, x30) (x12, x21) (x13, x31) (x23, x32); exact h1 ▸ h0
  have h15 : 0 < det 4 (mat4 (x01, x10) (x02, x20) (x03, x30) (x12, x21) (x13, x31) (x23, x32)) := by have h0 := hpos 15 (by decide) (by simp); have h1 := m4_15 (x01, x10) (x02, x20) (x03, x30) (x12, x21) (x13, x31) (x23, x32); exact h1 ▸ h0
  have h := hK
  unfold chk4 at h
  have b7 : bad3 (x01, x10) (x02, x20) (x12, x21) = false := by unfold bad3; rw [decide_eq_false_iff_not]; omega
  have b11 : bad3 (x01, x10) (x03, x30) (x13, x31) = false := by unfold bad3; rw [decide_eq_false_iff_not]; omega
  have b13 : bad3 (x02, x20) (x03, x30) (x23, x32) = false := by unfold bad3; rw [decide_eq_false_iff_not]; omega
  have b14 : bad3 (x12, x21) (x13, x31) (x23, x32) = false := by unfold bad3; rw [decide_eq_false_iff_not]; omega
  have b15 : decide (det 4 (mat4 (x01, x10) (x02, x20) (x03, x30) (x12, x21) (x13, x31) (x23, x32)) ≤ 0) = false := by rw [decide_eq_false_iff_not]; omega
  have h1 := List.all_eq_true.1 h _ p01
  have h2 := List.all_eq_true.1 h1 _ p02
  have h3 := List.all_eq_true.1 h2 _ p12
  rw [b7, Bool.false_or] at h3
  have h4 := List.all_eq_true.1 h3 _ p03
  have h5 := List.all_eq_true.1 h4 _ p13
  rw [b11, Bool.false_or] at h5
  have h6 := List.all_eq_true.1 h5 _ p23
  rw [b13, Bool.false_or, b14, Bool.false_or, b15, Bool.false_or] at h6
  exact h6

theorem good_of_1 {P : List (List Int) → Bool} (hK : P [[2]] = true) {c : List (List Int)} (hC : IsC c) (hn : c.length = 1) : P c = true := by
  obtain ⟨r0, rfl⟩ := list1 hn
  obtain ⟨x00, rfl⟩ := list1 (hC.2.2.1 0 (by simp))
  have d0 : x00 = 2 := ent_diag hC (i := 0) (by simp)
  subst d0
  exact hK
theorem fin_all (P : List (List Int) → Bool) (p1 : P [[2]] = true) (p2 : chk2 P = true) (p3 : chk3 P = true) (p4 : chk4 P = true) {c : List (List Int)} (hC : IsC c) (hf : finB c = true) : P c = true := by
  have : c.length = 1 ∨ c.length = 2 ∨ c.length = 3 ∨ c.length = 4 := by have := hC.1; have := hC.2.1; omega
  rcases this with h | h | h | h
  · exact good_of_1 p1 hC h
  · exact good_of_2 p2 hC hf h
  · exact good_of_3 p3 hC hf h
  · exact good_of_4 p4 hC hf h
end Go.Proofs.YtobeigdjhepedaaGreatDoor
