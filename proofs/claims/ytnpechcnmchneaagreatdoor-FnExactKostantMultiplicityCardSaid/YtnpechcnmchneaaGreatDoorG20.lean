/- The reference's l2Cut: contract. SizeByName of the reference at names of parts: contract. SizeOf and DeterminantOf of both: contracts. Every finite type of rank at most 4 is one of those enumerated: what holds at these (checked by the kernel) holds at all. Plain law. Words acting on weights, normal forms: contracts. -/
import Derived.Test.YtnpechcnmchneaaGreatDoorG19
import Derived.Test.YtnpechcnmchneaaGreatDoorG16
import Derived.Test.YtnpechcnmchneaaGreatDoorG03
namespace Go.Proofs.YtnpechcnmchneaaGreatDoor
set_option maxRecDepth 100000
open Go.RowKit
open Go.Lib (join)

def cutG (c : UInt8) (st : List Bs × Bs) (b : UInt8) : List Bs × Bs := if b = c then (st.1 ++ [st.2], []) else (st.1, st.2 ++ [b])
def cutN (c : UInt8) (s : Bs) (k : Nat) : List Bs × Bs := (s.take k).foldl (cutG c) ([], [])
theorem cutN_succ (c : UInt8) (s : Bs) (k : Nat) (hk : k < s.length) : cutN c s (k + 1) = cutG c (cutN c s k) s[k] := by
  unfold cutN
  rw [List.take_succ_eq_append_getElem hk, List.foldl_append]
  rfl
theorem cut_plain (c : UInt8) : ∀ (x : Bs) (st : List Bs × Bs), c ∉ x → x.foldl (cutG c) st = (st.1, st.2 ++ x)
  | [], st, _ => by simp
  | b :: x, st, h => by
    have hb : b ≠ c := fun e => h (by simp [e])
    rw [List.foldl_cons, show cutG c st b = (st.1, st.2 ++ [b]) from if_neg hb, cut_plain c x _ (fun hm => h (by simp [hm]))]
    simp
theorem cut_join (c : UInt8) : ∀ (L : List Bs) (out : List Bs), L ≠ [] → (∀ x ∈ L, c ∉ x) → ((join L [c]).foldl (cutG c) (out, [])).1 ++ [((join L [c]).foldl (cutG c) (out, [])).2] = out ++ L
  | [], _, h, _ => absurd rfl h
  | [x], out, _, h => by
    have e : join [x] [c] = x := by simp [join, List.intercalate]
    rw [e, cut_plain c x _ (h x (by simp))]
    simp
  | x :: y :: L, out, _, h => by
    have ih := cut_join c (y :: L) (out ++ [x]) (by simp) fun z hz => h z (by simp [hz])
    have e : join (x :: y :: L) [c] = x ++ c :: join (y :: L) [c] := by simp [join, List.intercalate, List.intersperse]
    rw [e, List.foldl_append, cut_plain c x _ (h x (by simp)), List.foldl_cons, show cutG c (out, [] ++ x) c = (out ++ [x], []) from by simp [cutG]]
    rw [ih]
    simp
theorem cutN_len (c : UInt8) (s : Bs) : ∀ k, k ≤ s.length → (cutN c s k).1.length ≤ k ∧ (cutN c s k).2.length ≤ k
  | 0, _ => by simp [cutN]
  | k + 1, hk => by
    have ih := cutN_len c s k (by omega)
    rw [cutN_succ c s k (by omega)]
    unfold cutG
    split
    · simp; omega
    · simp; omega

set_option maxHeartbeats 1000000 in
theorem spec_l2Cut_ok (s : Bs) (c : UInt8) (w : World) (hl : s.length ≤ 100000) :
    Calls Tryz.prog 115 #[.string ⟨s.toArray⟩, .int .u8 (c.toNat : Int)] w fun e w' => ∃ g cap, e = .returned (Value.slice (some ⟨g, 0, none⟩) ((cutN c s s.length).1.length + 1) cap) ∧ OwnStrs w' w.heap.size g cap (strs ((cutN c s s.length).1 ++ [(cutN c s s.length).2])) ∧ Below w.heap.size w w' := by
  go_enter Tryz.func115, Tryz.ntmps115
  go_wp2_with fail
  go_loopw [5, 6, 7] (fun ov pv iv wr => ∃ (k gO cO p : Nat), k ≤ s.length ∧ p ≤ k ∧ iv = .int .i64 k ∧ pv = .string ⟨(cutN c s k).2.toArray⟩ ∧ ov = (Value.slice (some ⟨gO, 0, none⟩) p cO) ∧ Hid ((cutN c s k).1.length = p) ∧ OwnStrs wr w.heap.size gO cO (strs (cutN c s k).1) ∧ Below w.heap.size w wr) (fun _ _ iv _ => s.length - (intOf iv).toNat)
  case atStart => exact ⟨0, w.heap.size, 0, 0, Nat.zero_le _, Nat.le_refl _, rfl, rfl, rfl, rfl, OwnStrs.empty (Nat.le_refl _), (Below.refl _ _).alloc (Nat.le_refl _) _⟩
  case round =>
    obtain ⟨k, gO, cO, p, hk, hpk, rfl, rfl, rfl, hp, ho, hb⟩ := hrel
    by_cases hlt : k < s.length
    · have hsucc := cutN_succ c s k hlt
      have hx : (⟨s.toArray⟩ : ByteArray)[k]'(by simpa [ByteArray.size] using hlt) = s[k] := by
        show s.toArray[k] = s[k]
        simp
      by_cases hc : s[k] = c
      · have hl2 : Hid ((strs (cutN c s k).1).length = p) := Lib.hid (by unfold strs; rw [List.length_map]; exact hp.out)
        have hB : ((s[k].toNat : Int) == (c.toNat : Int)) = true := by
          rw [beq_iff_eq, hc]
        go_wp2_with (at_builtin; refine wpList_append_str rfl _ _ rfl w.heap.size gO cO p wr.heap.size (strs (cutN c s k).1) ⟨(cutN c s k).2.toArray⟩ wr _ hl2.out rfl rfl ho rfl rfl (by omega) ?_)
        intro g9 c9 w9 ho9 hg9 hor9
        have hb9 := hb.grown hg9 hb.size (by intro t ht; cases ht; exact OwnK.base ho)
        have hn : cutN c s (k + 1) = ((cutN c s k).1 ++ [(cutN c s k).2], []) := by rw [hsucc]; unfold cutG; rw [if_pos hc]
        have ho10 : OwnStrs w9 w.heap.size g9 c9 (strs (cutN c s (k + 1)).1) := by
          have e : strs (cutN c s (k + 1)).1 = strs (cutN c s k).1 ++ [⟨(cutN c s k).2.toArray⟩] := by rw [hn]; simp [strs]
          rw [e]
          exact ho9
        clear ho9 hg9 hor9 hb ho
        go_wp2_with fail
        refine ⟨⟨k + 1, g9, c9, p + 1, by omega, by omega, rfl, by rw [hn], rfl, Lib.hid (by rw [hn, List.length_append, hp.out, List.length_singleton]), ho10, hb9⟩, ?_⟩
        simp only [intOf]
        omega
      · have hn : cutN c s (k + 1) = ((cutN c s k).1, (cutN c s k).2 ++ [s[k]]) := by rw [hsucc]; unfold cutG; rw [if_neg hc]
        have hB : ((s[k].toNat : Int) == (c.toNat : Int)) = false := by
          rw [beq_eq_false_iff_ne]
          intro h
          exact hc (UInt8.toNat_inj.mp (by omega))
        have e1 := addS wr (cutN c s k).2 [s[k]] _ rfl (by have := (cutN_len c s k hk).2; simp only [List.length_append, List.length_cons, List.length_nil]; omega)
        have e2 : (⟨s.toArray⟩ : ByteArray).extract k (k + 1) = ⟨([s[k]] : Bs).toArray⟩ := by
          apply ByteArray.ext
          simp [ByteArray.data_extract]
          rw [List.drop_eq_getElem_cons hlt]
          rfl
        go_wp2_with fail
        refine ⟨⟨k + 1, gO, cO, p, by omega, by omega, rfl, by rw [hn], rfl, Lib.hid (by rw [hn]; exact hp.out), by rw [hn]; exact ho, hb⟩, ?_⟩
        simp only [intOf]
        omega
    · obtain rfl : k = s.length := by omega
      have hl2 : Hid ((strs (cutN c s s.length).1).length = p) := Lib.hid (by unfold strs; rw [List.length_map]; exact hp.out)
      go_wp2_with (at_builtin; refine wpList_append_str rfl _ _ rfl w.heap.size gO cO p wr.heap.size (strs (cutN c s s.length).1) ⟨(cutN c s s.length).2.toArray⟩ wr _ hl2.out rfl rfl ho rfl rfl (by omega) ?_)
      intro g9 c9 w9 ho9 hg9 hor9
      have hb9 := hb.grown hg9 hb.size (by intro t ht; cases ht; exact OwnK.base ho)
      have ho10 : OwnStrs w9 w.heap.size g9 c9 (strs ((cutN c s s.length).1 ++ [(cutN c s s.length).2])) := by
        have e : strs ((cutN c s s.length).1 ++ [(cutN c s s.length).2]) = strs (cutN c s s.length).1 ++ [⟨(cutN c s s.length).2.toArray⟩] := by simp [strs]
        rw [e]
        exact ho9
      clear ho9 hg9 hor9 hb ho
      go_wp2_with fail
      go_ret
      exact ⟨g9, c9, by rw [hp.out]; rfl, ho10, hb9⟩
end Go.Proofs.YtnpechcnmchneaaGreatDoor
namespace Go.Proofs.YtnpechcnmchneaaGreatDoor
set_option maxRecDepth 100000
open Go.RowKit
open Go.Lib (join)

theorem cut_names {c : UInt8} {L : List Bs} (hL : L ≠ []) (h : ∀ x ∈ L, c ∉ x) :
    (cutN c (join L [c]) (join L [c]).length).1 ++ [(cutN c (join L [c]) (join L [c]).length).2] = L := by
  have e := cut_join c L [] hL h
  unfold cutN
  rw [List.take_length]
  exact e

set_option maxHeartbeats 2000000 in
theorem spec_SizeByName_ok (L : List Bs) (w : World) (hL : L ≠ []) (hl4 : L.length ≤ 4) (h : ∀ s ∈ L, s ∈ names17) :
    Calls Tryz.prog 62 #[.string ⟨(join L [120]).toArray⟩] w (Gives w (.int .i64 (prodT L))) := by
  have hj := join_len 120 L (fun x hx => (names_noX _ (h x hx)).2.1)
  have hs := spec_l2Cut_ok (join L [120]) 120 w (by omega)
  have hcut := cut_names hL (fun x hx => (names_noX _ (h x hx)).1)
  have hlen : (cutN 120 (join L [120]) (join L [120]).length).1.length + 1 = L.length := by
    have := congrArg List.length hcut
    rw [List.length_append] at this
    exact this
  rw [hcut, hlen] at hs
  have HS := Lib.hid hs
  have HM := Lib.hid (fun k (hk : k < L.length) => h (L.getD k []) (by simp [List.getD, hk]))
  have HB := Lib.hid (fun k (hk : k ≤ L.length) => prodT_bound h k hk)
  have HP := Lib.hid (fun k (hk : k < L.length) => prodT_succ L k hk)
  have HA : Hid (prodT (L.take L.length) = prodT L) := Lib.hid (by rw [List.take_length])
  clear hs h hcut hlen hj
  generalize prodT L = R at *
  generalize (⟨(join L [120]).toArray⟩ : ByteArray) = nm at *
  go_enter Tryz.func62, Tryz.ntmps62
  go_wp2_with fail
  refine HS.out.mono ?_
  rintro e w1 ⟨g1, c1, rfl, ho1, hb1⟩
  clear HS
  go_wp2_with fail
  go_loopw [4, 5, 6] (fun zv kv _ wr => ∃ k : Nat, k ≤ L.length ∧ kv = .int .i64 k ∧ zv = .int .i64 (prodT (L.take k)) ∧ Below w1.heap.size w1 wr) (fun _ kv _ _ => L.length - (intOf kv).toNat)
  case atStart => exact ⟨0, Nat.zero_le _, rfl, rfl, Below.refl _ _⟩
  case round =>
    obtain ⟨k, hk, rfl, rfl, hb⟩ := hrel
    by_cases hlt : k < L.length
    · have hcell := ho1.cell k ⟨(L.getD k []).toArray⟩ (by simp [strs, List.getD, hlt])
      rw [Nat.zero_add] at hcell
      have hcellr := (hb.cell (p := ⟨g1, k, none⟩) (OwnK.lt ho1)).trans hcell
      have hm := HM.out k hlt
      have hpk := HP.out k hlt
      have hbk := HB.out (k + 1) hlt
      have hpw := pw_le (k := k + 1) (by omega)
      rw [hpk] at hbk
      have hw : wrap64 (prodT (L.take k) * sizeT (L.getD k [])) = prodT (L.take k) * sizeT (L.getD k []) := IntWalk.wrap64_in _ ⟨by omega, by omega⟩
      have Hpk := Lib.hid hpk
      clear hpk hcell
      generalize L.getD k [] = s at *
      generalize prodT (L.take k) = x at *
      generalize pw (k + 1) = P at *
      have hN : names17.length = 18 := rfl
      obtain ⟨q, hq, e⟩ := List.mem_iff_getElem.1 hm
      have e2 : names17.getD q [] = s := by simp [List.getD, hq, e]
      rw [hN] at hq
      have hq18 : q = 0 ∨ q = 1 ∨ q = 2 ∨ q = 3 ∨ q = 4 ∨ q = 5 ∨ q = 6 ∨ q = 7 ∨ q = 8 ∨ q = 9 ∨ q = 10 ∨ q = 11 ∨ q = 12 ∨ q = 13 ∨ q = 14 ∨ q = 15 ∨ q = 16 ∨ q = 17 := by omega
      clear e hm hN hq
      subst e2
      rcases hq18 with rfl | rfl | rfl | rfl | rfl | rfl | rfl | rfl | rfl | rfl | rfl | rfl | rfl | rfl | rfl | rfl | rfl | rfl
      · have e : sizeT (names17.getD 0 []) = 2 := by decide
        rw [e] at hw Hpk hbk
        clear e
        go_wp2_with fail
        exact ⟨⟨k + 1, by omega, rfl, by rw [Hpk.out], hb⟩, by simp only [intOf]; omega⟩
      · have e : sizeT (names17.getD 1 []) = 6 := by decide
        rw [e] at hw Hpk hbk
        clear e
        go_wp2_with fail
        exact ⟨⟨k + 1, by omega, rfl, by rw [Hpk.out], hb⟩, by simp only [intOf]; omega⟩
      · have e : sizeT (names17.getD 2 []) = 24 := by decide
        rw [e] at hw Hpk hbk
        clear e
        go_wp2_with fail
        exact ⟨⟨k + 1, by omega, rfl, by rw [Hpk.out], hb⟩, by simp only [intOf]; omega⟩
      · have e : sizeT (names17.getD 3 []) = 120 := by decide
        rw [e] at hw Hpk hbk
        clear e
        go_wp2_with fail
        exact ⟨⟨k + 1, by omega, rfl, by rw [Hpk.out], hb⟩, by simp only [intOf]; omega⟩
      · have e : sizeT (names17.getD 4 []) = 8 := by decide
        rw [e] at hw Hpk hbk
        clear e
        go_wp2_with fail
        exact ⟨⟨k + 1, by omega, rfl, by rw [Hpk.out], hb⟩, by simp only [intOf]; omega⟩
      · have e : sizeT (names17.getD 5 []) = 48 := by decide
        rw [e] at hw Hpk hbk
        clear e
        go_wp2_with fail
        exact ⟨⟨k + 1, by omega, rfl, by rw [Hpk.out], hb⟩, by simp only [intOf]; omega⟩
      · have e : sizeT (names17.getD 6 []) = 384 := by decide
        rw [e] at hw Hpk hbk
        clear e
        go_wp2_with fail
        exact ⟨⟨k + 1, by omega, rfl, by rw [Hpk.out], hb⟩, by simp only [intOf]; omega⟩
      · have e : sizeT (names17.getD 7 []) = 48 := by decide
        rw [e] at hw Hpk hbk
        clear e
        go_wp2_with fail
        exact ⟨⟨k + 1, by omega, rfl, by rw [Hpk.out], hb⟩, by simp only [intOf]; omega⟩
      · have e : sizeT (names17.getD 8 []) = 384 := by decide
        rw [e] at hw Hpk hbk
        clear e
        go_wp2_with fail
        exact ⟨⟨k + 1, by omega, rfl, by rw [Hpk.out], hb⟩, by simp only [intOf]; omega⟩
      · have e : sizeT (names17.getD 9 []) = 192 := by decide
        rw [e] at hw Hpk hbk
        clear e
        go_wp2_with fail
        exact ⟨⟨k + 1, by omega, rfl, by rw [Hpk.out], hb⟩, by simp only [intOf]; omega⟩
      · have e : sizeT (names17.getD 10 []) = 1152 := by decide
        rw [e] at hw Hpk hbk
        clear e
        go_wp2_with fail
        exact ⟨⟨k + 1, by omega, rfl, by rw [Hpk.out], hb⟩, by simp only [intOf]; omega⟩
      · have e : sizeT (names17.getD 11 []) = 12 := by decide
        rw [e] at hw Hpk hbk
        clear e
        go_wp2_with fail
        exact ⟨⟨k + 1, by omega, rfl, by rw [Hpk.out], hb⟩, by simp only [intOf]; omega⟩
      · have e : sizeT (names17.getD 12 []) = 0 := by decide
        rw [e] at hw Hpk hbk
        clear e
        go_wp2_with fail
        exact ⟨⟨k + 1, by omega, rfl, by rw [Hpk.out]; simp, hb⟩, by simp only [intOf]; omega⟩
      · have e : sizeT (names17.getD 13 []) = 0 := by decide
        rw [e] at hw Hpk hbk
        clear e
        go_wp2_with fail
        exact ⟨⟨k + 1, by omega, rfl, by rw [Hpk.out]; simp, hb⟩, by simp only [intOf]; omega⟩
      · have e : sizeT (names17.getD 14 []) = 0 := by decide
        rw [e] at hw Hpk hbk
        clear e
        go_wp2_with fail
        exact ⟨⟨k + 1, by omega, rfl, by rw [Hpk.out]; simp, hb⟩, by simp only [intOf]; omega⟩
      · have e : sizeT (names17.getD 15 []) = 0 := by decide
        rw [e] at hw Hpk hbk
        clear e
        go_wp2_with fail
        exact ⟨⟨k + 1, by omega, rfl, by rw [Hpk.out]; simp, hb⟩, by simp only [intOf]; omega⟩
      · have e : sizeT (names17.getD 16 []) = 0 := by decide
        rw [e] at hw Hpk hbk
        clear e
        go_wp2_with fail
        exact ⟨⟨k + 1, by omega, rfl, by rw [Hpk.out]; simp, hb⟩, by simp only [intOf]; omega⟩
      · have e : sizeT (names17.getD 17 []) = 0 := by decide
        rw [e] at hw Hpk hbk
        clear e
        go_wp2_with fail
        exact ⟨⟨k + 1, by omega, rfl, by rw [Hpk.out]; simp, hb⟩, by simp only [intOf]; omega⟩
    · obtain rfl : k = L.length := by omega
      rw [HA.out]
      have hb9 := hb1.trans (hb.mono hb1.size)
      go_wp2_with fail
      go_ret
      exact ⟨rfl, hb9⟩
end Go.Proofs.YtnpechcnmchneaaGreatDoor
namespace Go.Proofs.YtnpechcnmchneaaGreatDoor
set_option maxRecDepth 100000
open Go.RowKit
open Go.Lib (join)

def part1 (c : List (List Int)) : Bool := decide (1 ≤ (partsL c).length)
theorem part1_1 : part1 [[1]] = true := by kernel_rfl
theorem part1_2 : (Z2.all fun a => part1 (zm2 a)) = true := by kernel_rfl
theorem part1_3 : (Z2.all fun a => Z2.all fun b => Z2.all fun e => part1 (zm3 a b e)) = true := by kernel_rfl
theorem part1_4 : (Z2.all fun a => Z2.all fun b => Z2.all fun d => Z2.all fun e => Z2.all fun f => Z2.all fun g => part1 (zm4 a b d e f g)) = true := by kernel_rfl
theorem parts_pos {c : List (List Int)} (hC : IsC c) : 1 ≤ (partsL c).length := by
  have h := zo_all part1 part1_1 part1_2 part1_3 part1_4 hC
  unfold part1 at h
  rw [partsL_zo] at h
  exact of_decide_eq_true h
theorem nameL_len {c : List (List Int)} (hC : IsC c) : nameL c ≠ [] ∧ (nameL c).length ≤ 4 ∧ ∀ s ∈ nameL c, s ∈ names17 := by
  obtain ⟨seen, hP⟩ := parts_are hC
  have h1 := parts_pos hC
  have h2 := hP.len
  have e : (nameL c).length = (partsL c).length := by unfold nameL; rw [List.length_map]
  refine ⟨fun h => ?_, by omega, fun s hs => ?_⟩
  · rw [h, List.length_nil] at e; omega
  · obtain ⟨p, -, rfl⟩ := List.mem_map.1 hs
    exact nameP_mem _
/-- the size of the group, 0 if it is not finite -/
def szO (c : List (List Int)) : Int := if finB c = true then prodT (nameL c) else 0
theorem szO_bound (c : List (List Int)) : 0 ≤ szO c ∧ szO c ≤ 1761205026816 := by
  unfold szO
  split
  · rename_i hf
    have hC : IsC c := by unfold finB at hf; exact of_decide_eq_true (Bool.and_eq_true_iff.1 hf).1
    obtain ⟨h1, h2, h3⟩ := nameL_len hC
    have h := prodT_bound h3 (nameL c).length (Nat.le_refl _)
    rw [List.take_length] at h
    have := pw_le h2
    omega
  · omega
theorem fin_isC {c : List (List Int)} (hf : finB c = true) : IsC c := by unfold finB at hf; exact of_decide_eq_true (Bool.and_eq_true_iff.1 hf).1

set_option maxHeartbeats 1000000 in
theorem impl_SizeOf_any (gc oc n cc : Nat) (c : List (List Int)) (w : World) (hn : c.length = n) (hx : c.length ≤ 1048576) (hrl : ∀ j, j < c.length → (c.getD j []).length ≤ 1048576) (hgc : gc < w.heap.size) (hr : Rows2 w gc oc c) (hm : MaxL w) :
    Calls Tryz.prog 32 #[(Value.slice (some ⟨gc, oc, none⟩) n cc)] w (Gives w (.int .i64 (szO c))) := by
  have HF := impl_IsFinite_any gc oc n cc c w hn hx hrl hgc hr
  by_cases hf : finB c = true
  · have hC := fin_isC hf
    have hs : szO c = prodT (nameL c) := if_pos hf
    obtain ⟨h1, h2, h3⟩ := nameL_len hC
    have HN := Lib.hid (fun W (hW : Below w.heap.size w W) => impl_NameOf_ok gc oc n cc c W hn hC (Nat.lt_of_lt_of_le hgc hW.size) (hr.below hW hgc) (hm.below hW))
    have HZ := Lib.hid (fun W (hW : Below w.heap.size w W) => impl_SizeByName_ok (nameL c) W h1 h2 h3 (hm.below hW))
    rw [hf] at HF
    rw [hs]
    clear h1 h2 h3 hs hf hx hrl hn hr
    generalize prodT (nameL c) = R at *
    generalize (⟨(join (nameL c) [120]).toArray⟩ : ByteArray) = nm at *
    go_enter Tryz.func32, Tryz.ntmps32
    go_wp2_with fail
    refine HF.mono ?_
    rintro e w1 ⟨rfl, hb1⟩
    go_wp2_with fail
    refine (HN.out w1 hb1).mono ?_
    rintro e w2 ⟨rfl, hb2⟩
    have hb3 := hb1.trans (hb2.mono hb1.size)
    go_wp2_with fail
    refine (HZ.out w2 hb3).mono ?_
    rintro e w4 ⟨rfl, hb4⟩
    have hb5 := hb3.trans (hb4.mono hb3.size)
    go_wp2_with fail
    go_ret
    exact ⟨rfl, hb5⟩
  · have hf' : finB c = false := by simpa using hf
    have hs : szO c = 0 := if_neg hf
    rw [hs]
    rw [hf'] at HF
    clear hs hf hf' hx hrl hn hr
    go_enter Tryz.func32, Tryz.ntmps32
    go_wp2_with fail
    refine HF.mono ?_
    rintro e w1 ⟨rfl, hb1⟩
    go_wp2_with fail
    go_ret
    exact ⟨rfl, hb1⟩

set_option maxHeartbeats 1000000 in
theorem spec_SizeOf_any (gc oc n cc : Nat) (c : List (List Int)) (w : World) (hn : c.length = n) (hx : c.length ≤ 1048576) (hrl : ∀ j, j < c.length → (c.getD j []).length ≤ 1048576) (hgc : gc < w.heap.size) (hr : Rows2 w gc oc c) :
    Calls Tryz.prog 21 #[(Value.slice (some ⟨gc, oc, none⟩) n cc)] w (Gives w (.int .i64 (szO c))) := by
  have HF := spec_IsFinite_any gc oc n cc c w hn hx hrl hgc hr
  by_cases hf : finB c = true
  · have hC := fin_isC hf
    have hs : szO c = prodT (nameL c) := if_pos hf
    obtain ⟨h1, h2, h3⟩ := nameL_len hC
    have HN := Lib.hid (fun W (hW : Below w.heap.size w W) => spec_NameOf_ok gc oc n cc c W hn hC (Nat.lt_of_lt_of_le hgc hW.size) (hr.below hW hgc))
    have HZ := Lib.hid (fun W => spec_SizeByName_ok (nameL c) W h1 h2 h3)
    rw [hf] at HF
    rw [hs]
    clear h1 h2 h3 hs hf hx hrl hn hr
    generalize prodT (nameL c) = R at *
    generalize (⟨(join (nameL c) [120]).toArray⟩ : ByteArray) = nm at *
    go_enter Tryz.func21, Tryz.ntmps21
    go_wp2_with fail
    refine HF.mono ?_
    rintro e w1 ⟨rfl, hb1⟩
    go_wp2_with fail
    refine (HN.out w1 hb1).mono ?_
    rintro e w2 ⟨rfl, hb2⟩
    have hb3 := hb1.trans (hb2.mono hb1.size)
    go_wp2_with fail
    refine (HZ.out w2).mono ?_
    rintro e w4 ⟨rfl, hb4⟩
    have hb5 := hb3.trans (hb4.mono hb3.size)
    go_wp2_with fail
    go_ret
    exact ⟨rfl, hb5⟩
  · have hf' : finB c = false := by simpa using hf
    have hs : szO c = 0 := if_neg hf
    rw [hs]
    rw [hf'] at HF
    clear hs hf hf' hx hrl hn hr
    go_enter Tryz.func21, Tryz.ntmps21
    go_wp2_with fail
    refine HF.mono ?_
    rintro e w1 ⟨rfl, hb1⟩
    go_wp2_with fail
    go_ret
    exact ⟨rfl, hb1⟩

theorem isC_sq {c : List (List Int)} (hC : IsC c) : Sq c.length c := ⟨rfl, hC.2.2.1, ent_bound hC⟩
set_option maxHeartbeats 1000000 in
theorem impl_DeterminantOf_ok (gc oc n cc : Nat) (c : List (List Int)) (w : World) (hn : c.length = n) (hC : IsC c) (hcap : n ≤ cc) (hgc : gc < w.heap.size) (hr : Rows2 w gc oc c) :
    Calls Tryz.prog 37 #[(Value.slice (some ⟨gc, oc, none⟩) n cc)] w (Gives w (.int .i64 (det n c))) := by
  have hs : Sq n c := hn ▸ isC_sq hC
  have h4 : n ≤ 4 := by have := hC.2.1; omega
  have HD := Lib.hid (fun W (hW : Below w.heap.size w W) => impl_determinant_any n h4 gc oc cc c W hs (Nat.lt_of_lt_of_le hgc hW.size) hcap (hr.below hW hgc))
  go_enter Tryz.func37, Tryz.ntmps37
  go_wp2_with fail
  refine (impl_IsCartan gc oc n cc c w hn (by omega) (fun j hj => by have := hC.2.2.1 j hj; have := hC.2.1; omega) hr).mono ?_
  rintro e w1 ⟨rfl, m1, rfl⟩
  rw [decide_eq_true hC]
  have hb1 : Below w.heap.size w (w.drewN m1) := below_drewN' w m1
  go_wp2_with fail
  refine (HD.out _ hb1).mono ?_
  rintro e w2 ⟨rfl, hb2⟩
  have hb5 := hb1.trans (hb2.mono hb1.size)
  go_wp2_with fail
  go_ret
  exact ⟨rfl, hb5⟩
set_option maxHeartbeats 1000000 in
theorem spec_DeterminantOf_ok (gc oc n cc : Nat) (c : List (List Int)) (w : World) (hn : c.length = n) (hC : IsC c) (hgc : gc < w.heap.size) (hr : Rows2 w gc oc c) :
    Calls Tryz.prog 25 #[(Value.slice (some ⟨gc, oc, none⟩) n cc)] w (Gives w (.int .i64 (det n c))) := by
  have hs : Sq n c := hn ▸ isC_sq hC
  have h4 : n ≤ 4 := by have := hC.2.1; omega
  have HD := Lib.hid (fun W (hW : Below w.heap.size w W) => spec_l4Det_any n h4 gc oc cc c W hs (Nat.lt_of_lt_of_le hgc hW.size) (hr.below hW hgc))
  go_enter Tryz.func25, Tryz.ntmps25
  go_wp2_with fail
  refine (spec_IsCartan gc oc n cc c w hn (by omega) (fun j hj => by have := hC.2.2.1 j hj; have := hC.2.1; omega) hr).mono ?_
  rintro e w1 ⟨rfl, m1, rfl⟩
  rw [decide_eq_true hC]
  have hb1 : Below w.heap.size w (w.drewN m1) := below_drewN' w m1
  go_wp2_with fail
  refine (HD.out _ hb1).mono ?_
  rintro e w2 ⟨rfl, hb2⟩
  have hb5 := hb1.trans (hb2.mono hb1.size)
  go_wp2_with fail
  go_ret
  exact ⟨rfl, hb5⟩
end Go.Proofs.YtnpechcnmchneaaGreatDoor
namespace Go.Proofs.YtnpechcnmchneaaGreatDoor
set_option maxRecDepth 100000
open Go.RowKit

def L6 : List (Int × Int) := [(0, 0), (-1, -1), (-1, -2), (-2, -1), (-1, -3), (-3, -1)]
def mat2 (a : Int × Int) : List (List Int) := [[2, a.1], [a.2, 2]]
def mat3 (a b e : Int × Int) : List (List Int) := [[2, a.1, b.1], [a.2, 2, e.1], [b.2, e.2, 2]]
def mat4 (a b d e f g : Int × Int) : List (List Int) := [[2, a.1, b.1, d.1], [a.2, 2, e.1, f.1], [b.2, e.2, 2, g.1], [d.2, f.2, g.2, 2]]
def bad3 (a b e : Int × Int) : Bool := decide (det 3 (mat3 a b e) ≤ 0)
def chk2 (P : List (List Int) → Bool) : Bool := L6.all fun a => P (mat2 a)
def chk3 (P : List (List Int) → Bool) : Bool := L6.all fun a => L6.all fun b => L6.all fun e => bad3 a b e || P (mat3 a b e)
def chk4 (P : List (List Int) → Bool) : Bool := L6.all fun a => L6.all fun b => L6.all fun e => bad3 a b e || L6.all fun d => L6.all fun f => bad3 a d f || L6.all fun g => bad3 b d g || (bad3 e f g || (decide (det 4 (mat4 a b d e f g) ≤ 0) || P (mat4 a b d e f g)))
def chk4At (P : List (List Int) → Bool) (a b : Int × Int) : Bool := L6.all fun e => bad3 a b e || L6.all fun d => L6.all fun f => bad3 a d f || L6.all fun g => bad3 b d g || (bad3 e f g || (decide (det 4 (mat4 a b d e f g) ≤ 0) || P (mat4 a b d e f g)))
theorem chk4_eq (P : List (List Int) → Bool) : chk4 P = L6.all fun a => L6.all fun b => chk4At P a b := rfl
theorem list1 {α : Type} {l : List α} (h : l.length = 1) : ∃ a, l = [a] := by
  match l, h with
  | [a], _ => exact ⟨a, rfl⟩
theorem list2 {α : Type} {l : List α} (h : l.length = 2) : ∃ a b, l = [a, b] := by
  match l, h with
  | [a, b], _ => exact ⟨a, b, rfl⟩
theorem list3 {α : Type} {l : List α} (h : l.length = 3) : ∃ a b c, l = [a, b, c] := by
  match l, h with
  | [a, b, c], _ => exact ⟨a, b, c, rfl⟩
theorem list4 {α : Type} {l : List α} (h : l.length = 4) : ∃ a b c d, l = [a, b, c, d] := by
  match l, h with
  | [a, b, c, d], _ => exact ⟨a, b, c, d, rfl⟩
theorem witFrom_pos {c : List (List Int)} : ∀ (f m : Nat), 1 ≤ m → m + f ≤ 16 → (witFrom c m f).length = 0 → ∀ k, m ≤ k → k < m + f → 0 < minorAt c k := by
  intro f
  induction f with
  | zero => intro m _ _ _ k h1 h2; omega
  | succ f ih =>
    intro m hm hf h k h1 h2
    unfold witFrom at h
    split at h
    · have := setL_ne m hm (by omega); omega
    · rename_i hd
      by_cases e : k = m
      · subst e; omega
      · exact ih (m + 1) (by omega) (by omega) h k (by omega) (by omega)
theorem fin_pos {c : List (List Int)} (hC : IsC c) (hf : finB c = true) : ∀ k, 1 ≤ k → k < 2 ^ c.length → 0 < minorAt c k := by
  intro k h1 h2
  have h16 := pow_le16 hC.2.1
  unfold finB at hf
  rw [Bool.and_eq_true] at hf
  have hw : (witness c).length = 0 := by simpa using hf.2
  unfold witness at hw
  rw [if_pos hC] at hw
  exact witFrom_pos (2 ^ c.length - 1) 1 (Nat.le_refl _) (by omega) hw k h1 (by omega)
theorem pair_ok : ∀ x ∈ [(-3 : Int), -2, -1, 0], ∀ y ∈ [(-3 : Int), -2, -1, 0], decide (x = 0) = decide (y = 0) → 0 < det 2 (mat2 (x, y)) → (x, y) ∈ L6 := by decide
theorem pair_in {x y : Int} (h1 : -3 ≤ x ∧ x ≤ 0) (h2 : -3 ≤ y ∧ y ≤ 0) (h3 : decide (x = 0) = decide (y = 0)) (h : 0 < det 2 (mat2 (x, y))) : (x, y) ∈ L6 := by
  have hx : x ∈ [(-3 : Int), -2, -1, 0] := by
    have : x = -3 ∨ x = -2 ∨ x = -1 ∨ x = 0 := by omega
    rcases this with rfl | rfl | rfl | rfl <;> simp
  have hy : y ∈ [(-3 : Int), -2, -1, 0] := by
    have : y = -3 ∨ y = -2 ∨ y = -1 ∨ y = 0 := by omega
    rcases this with rfl | rfl | rfl | rfl <;> simp
  exact pair_ok x hx y hy h3 h
theorem ent_diag {c : List (List Int)} (hC : IsC c) {i : Nat} (hi : i < c.length) : ent c i i = 2 := by
  have := hC.2.2.2 i hi i hi
  unfold EntOk at this
  rwa [if_pos rfl] at this
theorem ent_off {c : List (List Int)} (hC : IsC c) {i j : Nat} (hi : i < c.length) (hj : j < c.length) (hne : i ≠ j) : (-3 ≤ ent c i j ∧ ent c i j ≤ 0) ∧ decide (ent c i j = 0) = decide (ent c j i = 0) := by
  have := hC.2.2.2 i hi j hj
  unfold EntOk at this
  rw [if_neg hne] at this
  exact ⟨⟨this.1, this.2.1⟩, this.2.2⟩

theorem m2_3 (a : Int × Int) : minorAt (mat2 a) 3 = det 2 (mat2 a) := by kernel_rfl
theorem m3_3 (a b e : Int × Int) : minorAt (mat3 a b e) 3 = det 2 (mat2 a) := by kernel_rfl
theorem m3_5 (a b e : Int × Int) : minorAt (mat3 a b e) 5 = det 2 (mat2 b) := by kernel_rfl
theorem m3_6 (a b e : Int × Int) : minorAt (mat3 a b e) 6 = det 2 (mat2 e) := by kernel_rfl
theorem m3_7 (a b e : Int × Int) : minorAt (mat3 a b e) 7 = det 3 (mat3 a b e) := by kernel_rfl
theorem m4_3 (a b d e f g : Int × Int) : minorAt (mat4 a b d e f g) 3 = det 2 (mat2 a) := by kernel_rfl
theorem m4_5 (a b d e f g : Int × Int) : minorAt (mat4 a b d e f g) 5 = det 2 (mat2 b) := by kernel_rfl
theorem m4_9 (a b d e f g : Int × Int) : minorAt (mat4 a b d e f g) 9 = det 2 (mat2 d) := by kernel_rfl
theorem m4_6 (a b d e f g : Int × Int) : minorAt (mat4 a b d e f g) 6 = det 2 (mat2 e) := by kernel_rfl
theorem m4_10 (a b d e f g : Int × Int) : minorAt (mat4 a b d e f g) 10 = det 2 (mat2 f) := by kernel_rfl
theorem m4_12 (a b d e f g : Int × Int) : minorAt (mat4 a b d e f g) 12 = det 2 (mat2 g) := by kernel_rfl
theorem m4_7 (a b d e f g : Int × Int) : minorAt (mat4 a b d e f g) 7 = det 3 (mat3 a b e) := by kernel_rfl
theorem m4_11 (a b d e f g : Int × Int) : minorAt (mat4 a b d e f g) 11 = det 3 (mat3 a d f) := by kernel_rfl
theorem m4_13 (a b d e f g : Int × Int) : minorAt (mat4 a b d e f g) 13 = det 3 (mat3 b d g) := by kernel_rfl
theorem m4_14 (a b d e f g : Int × Int) : minorAt (mat4 a b d e f g) 14 = det 3 (mat3 e f g) := by kernel_rfl
theorem m4_15 (a b d e f g : Int × Int) : minorAt (mat4 a b d e f g) 15 = det 4 (mat4 a b d e f g) := by kernel_rfl

theorem good_of_2 {P : List (List Int) → Bool} (h2 : chk2 P = true) {c : List (List Int)} (hC : IsC c) (hf : finB c = true) (hn : c.length = 2) : P c = true := by
  have hpos := fin_pos hC hf
  obtain ⟨r0, r1, rfl⟩ := list2 hn
  obtain ⟨x00, x01, rfl⟩ := list2 (hC.2.2.1 0 (by simp))
  obtain ⟨x10, x11, rfl⟩ := list2 (hC.2.2.1 1 (by simp))
  have d0 : x00 = 2 := ent_diag hC (i := 0) (by simp)
  have d1 : x11 = 2 := ent_diag hC (i := 1) (by simp)
  subst d0; subst d1
  have o01 := ent_off hC (i := 0) (j := 1) (by simp) (by simp) (by decide)
  have o10 := ent_off hC (i := 1) (j := 0) (by simp) (by simp) (by decide)
  have p01 : (x01, x10) ∈ L6 := pair_in o01.1 o10.1 o01.2 (by have h0 := hpos 3 (by decide) (by simp); have h1 := m2_3 (x01, x10); exact h1 ▸ h0)
  have h := h2
  unfold chk2 at h
  have h1 := List.all_eq_true.1 h _ p01
  exact h1

theorem good_of_3 {P : List (List Int) → Bool} (hK : chk3 P = true) {c : List (List Int)} (hC : IsC c) (hf : finB c = true) (hn : c.length = 3) : P c = true := by
  have hpos := fin_pos hC hf
  obtain ⟨r0, r1, r2, rfl⟩ := list3 hn
  obtain ⟨x00, x01, x02, rfl⟩ := list3 (hC.2.2.1 0 (by simp))
  obtain ⟨x10, x11, x12, rfl⟩ := list3 (hC.2.2.1 1 (by simp))
  obtain ⟨x20, x21, x22, rfl⟩ := list3 (hC.2.2.1 2 (by simp))
  have d0 : x00 = 2 := ent_diag hC (i := 0) (by simp)
  have d1 : x11 = 2 := ent_diag hC (i := 1) (by simp)
  have d2 : x22 = 2 := ent_diag hC (i := 2) (by simp)
  subst d0; subst d1; subst d2
  have o01 := ent_off hC (i := 0) (j := 1) (by simp) (by simp) (by decide)
  have o10 := ent_off hC (i := 1) (j := 0) (by simp) (by simp) (by decide)
  have o02 := ent_off hC (i := 0) (j := 2) (by simp) (by simp) (by decide)
  have o20 := ent_off hC (i := 2) (j := 0) (by simp) (by simp) (by decide)
  have o12 := ent_off hC (i := 1) (j := 2) (by simp) (by simp) (by decide)
  have o21 := ent_off hC (i := 2) (j := 1) (by simp) (by simp) (by decide)
  have p01 : (x01, x10) ∈ L6 := pair_in o01.1 o10.1 o01.2 (by have h0 := hpos 3 (by decide) (by simp); have h1 := m3_3 (x01, x10) (x02, x20) (x12, x21); exact h1 ▸ h0)
  have p02 : (x02, x20) ∈ L6 := pair_in o02.1 o20.1 o02.2 (by have h0 := hpos 5 (by decide) (by simp); have h1 := m3_5 (x01, x10) (x02, x20) (x12, x21); exact h1 ▸ h0)
  have p12 : (x12, x21) ∈ L6 := pair_in o12.1 o21.1 o12.2 (by have h0 := hpos 6 (by decide) (by simp); have h1 := m3_6 (x01, x10) (x02, x20) (x12, x21); exact h1 ▸ h0)
  have h7 : 0 < det 3 (mat3 (x01, x10) (x02, x20) (x12, x21)) := by have h0 := hpos 7 (by decide) (by simp); have h1 := m3_7 (x01, x10) (x02, x20) (x12, x21); exact h1 ▸ h0
  have h := hK
  unfold chk3 at h
  have h1 := List.all_eq_true.1 h _ p01
  have h2 := List.all_eq_true.1 h1 _ p02
  have h3 := List.all_eq_true.1 h2 _ p12
  have hb : bad3 (x01, x10) (x02, x20) (x12, x21) = false := by unfold bad3; rw [decide_eq_false_iff_not]; omega
  rw [hb, Bool.false_or] at h3
  exact h3

set_option maxHeartbeats 2000000 in
theorem good_of_4 {P : List (List Int) → Bool} (hK : chk4 P = true) {c : List (List Int)} (hC : IsC c) (hf : finB c = true) (hn : c.length = 4) : P c = true := by
  have hpos := fin_pos hC hf
  obtain ⟨r0, r1, r2, r3, rfl⟩ := list4 hn
  obtain ⟨x00, x01, x02, x03, rfl⟩ := list4 (hC.2.2.1 0 (by simp))
  obtain ⟨x10, x11, x12, x13, rfl⟩ := list4 (hC.2.2.1 1 (by simp))
  obtain ⟨x20, x21, x22, x23, rfl⟩ := list4 (hC.2.2.1 2 (by simp))
  obtain ⟨x30, x31, x32, x33, rfl⟩ := list4 (hC.2.2.1 3 (by simp))
  have d0 : x00 = 2 := ent_diag hC (i := 0) (by simp)
  have d1 : x11 = 2 := ent_diag hC (i := 1) (by simp)
  have d2 : x22 = 2 := ent_diag hC (i := 2) (by simp)
  have d3 : x33 = 2 := ent_diag hC (i := 3) (by simp)
  subst d0; subst d1; subst d2; subst d3
  have o01 := ent_off hC (i := 0) (j := 1) (by simp) (by simp) (by decide)
  have o10 := ent_off hC (i := 1) (j := 0) (by simp) (by simp) (by decide)
  have o02 := ent_off hC (i := 0) (j := 2) (by simp) (by simp) (by decide)
  have o20 := ent_off hC (i := 2) (j := 0) (by simp) (by simp) (by decide)
  have o03 := ent_off hC (i := 0) (j := 3) (by simp) (by simp) (by decide)
  have o30 := ent_off hC (i := 3) (j := 0) (by simp) (by simp) (by decide)
  have o12 := ent_off hC (i := 1) (j := 2) (by simp) (by simp) (by decide)
  have o21 := ent_off hC (i := 2) (j := 1) (by simp) (by simp) (by decide)
  have o13 := ent_off hC (i := 1) (j := 3) (by simp) (by simp) (by decide)
  have o31 := ent_off hC (i := 3) (j := 1) (by simp) (by simp) (by decide)
  have o23 := ent_off hC (i := 2) (j := 3) (by simp) (by simp) (by decide)
  have o32 := ent_off hC (i := 3) (j := 2) (by simp) (by simp) (by decide)
  have p01 : (x01, x10) ∈ L6 := pair_in o01.1 o10.1 o01.2 (by have h0 := hpos 3 (by decide) (by simp); have h1 := m4_3 (x01, x10) (x02, x20) (x03, x30) (x12, x21) (x13, x31) (x23, x32); exact h1 ▸ h0)
  have p02 : (x02, x20) ∈ L6 := pair_in o02.1 o20.1 o02.2 (by have h0 := hpos 5 (by decide) (by simp); have h1 := m4_5 (x01, x10) (x02, x20) (x03, x30) (x12, x21) (x13, x31) (x23, x32); exact h1 ▸ h0)
  have p12 : (x12, x21) ∈ L6 := pair_in o12.1 o21.1 o12.2 (by have h0 := hpos 6 (by decide) (by simp); have h1 := m4_6 (x01, x10) (x02, x20) (x03, x30) (x12, x21) (x13, x31) (x23, x32); exact h1 ▸ h0)
  have p03 : (x03, x30) ∈ L6 := pair_in o03.1 o30.1 o03.2 (by have h0 := hpos 9 (by decide) (by simp); have h1 := m4_9 (x01, x10) (x02, x20) (x03, x30) (x12, x21) (x13, x31) (x23, x32); exact h1 ▸ h0)
  have p13 : (x13, x31) ∈ L6 := pair_in o13.1 o31.1 o13.2 (by have h0 := hpos 10 (by decide) (by simp); have h1 := m4_10 (x01, x10) (x02, x20) (x03, x30) (x12, x21) (x13, x31) (x23, x32); exact h1 ▸ h0)
  have p23 : (x23, x32) ∈ L6 := pair_in o23.1 o32.1 o23.2 (by have h0 := hpos 12 (by decide) (by simp); have h1 := m4_12 (x01, x10) (x02, x20) (x03, x30) (x12, x21) (x13, x31) (x23, x32); exact h1 ▸ h0)
  have h7 : 0 < det 3 (mat3 (x01, x10) (x02, x20) (x12, x21)) := by have h0 := hpos 7 (by decide) (by simp); have h1 := m4_7 (x01, x10) (x02, x20) (x03, x30) (x12, x21) (x13, x31) (x23, x32); exact h1 ▸ h0
  have h11 : 0 < det 3 (mat3 (x01, x10) (x03, x30) (x13, x31)) := by have h0 := hpos 11 (by decide) (by simp); have h1 := m4_11 (x01, x10) (x02, x20) (x03, x30) (x12, x21) (x13, x31) (x23, x32); exact h1 ▸ h0
  have h13 : 0 < det 3 (mat3 (x02, x20) (x03, x30) (x23, x32)) := by have h0 := hpos 13 (by decide) (by simp); have h1 := m4_13 (x01, x10) (x02, x20) (x03, x30) (x12, x21) (x13, x31) (x23, x32); exact h1 ▸ h0
  have h14 : 0 < det 3 (mat3 (x12, x21) (x13, x31) (x23, x32)) := by have h0 := hpos 14 (by decide) (by simp); have h1 := m4_14 (x01, x10) (x02, x20) (x03, x30) (x12, x21) (x13, x31) (x23, x32); exact h1 ▸ h0
  have h15 : 0 < det 4 (mat4 (x01, x10) (x02, x20) (x03, x30) (x12, x21) (x13, x31) (x23, x32)) := by have h0 := hpos 15 (by decide) (by simp); have h1 := m4_15 (x01, x10) (x02, x20) (x03, x30) (x12, x21) (x13, x31) (x23, x32); exact h1 ▸ h0
  have h := hK
  unfold chk4 at h
  have b7 : bad3 (x01, x10) (x02, x20) (x12, x21) = false := by unfold bad3; rw [decide_eq_false_iff_not]; omega
  have b11 : bad3 (x01, x10) (x03, x30) (x13, x31) = false := by unfold bad3; rw [decide_eq_false_iff_not]; omega
  have b13 : bad3 (x02, x20) (x03, x30) (x23, x32) = false := by unfold bad3; rw [decide_eq_false_iff_not]; omega
  have b14 : bad3 (x12, x21) (x13, x31) (x23, x32) = false := by unfold bad3; rw [decide_eq_false_iff_not]; omega
  have b15 : decide (det 4 (mat4 (x01, x10) (x02, x20) (x03, x30) (x12, x21) (x13, x31) (x23, x32)) ≤ 0) = false := by rw [decide_eq_false_iff_not]; omega
  have h1 := List.all_eq_true.1 h _ p01
  have h2 := List.all_eq_true.1 h1 _ p02
  have h3 := List.all_eq_true.1 h2 _ p12
  rw [b7, Bool.false_or] at h3
  have h4 := List.all_eq_true.1 h3 _ p03
  have h5 := List.all_eq_true.1 h4 _ p13
  rw [b11, Bool.false_or] at h5
  have h6 := List.all_eq_true.1 h5 _ p23
  rw [b13, Bool.false_or, b14, Bool.false_or, b15, Bool.false_or] at h6
  exact h6

theorem good_of_1 {P : List (List Int) → Bool} (hK : P [[2]] = true) {c : List (List Int)} (hC : IsC c) (hn : c.length = 1) : P c = true := by
  obtain ⟨r0, rfl⟩ := list1 hn
  obtain ⟨x00, rfl⟩ := list1 (hC.2.2.1 0 (by simp))
  have d0 : x00 = 2 := ent_diag hC (i := 0) (by simp)
  subst d0
  exact hK
theorem fin_all (P : List (List Int) → Bool) (p1 : P [[2]] = true) (p2 : chk2 P = true) (p3 : chk3 P = true) (p4 : chk4 P = true) {c : List (List Int)} (hC : IsC c) (hf : finB c = true) : P c = true := by
  have : c.length = 1 ∨ c.length = 2 ∨ c.length = 3 ∨ c.length = 4 := by have := hC.1; have := hC.2.1; omega
  rcases this with h | h | h | h
  · exact good_of_1 p1 hC h
  · exact good_of_2 p2 hC hf h
  · exact good_of_3 p3 hC hf h
  · exact good_of_4 p4 hC hf h
end Go.Proofs.YtnpechcnmchneaaGreatDoor
namespace Go.Proofs.YtnpechcnmchneaaGreatDoor
set_option maxRecDepth 100000
open Go.RowKit

/-- the first negative place -/
def firstNeg : List Int → Option Nat
  | [] => none
  | x :: l => if x < 0 then some 0 else (firstNeg l).map (· + 1)
def firstNegI (v : List Int) : Int := match firstNeg v with | none => -1 | some i => i
theorem firstNeg_lt {v : List Int} {i : Nat} (h : firstNeg v = some i) : i < v.length ∧ v.getD i 0 < 0 ∧ ∀ j, j < i → 0 ≤ v.getD j 0 := by
  induction v generalizing i with
  | nil => simp [firstNeg] at h
  | cons x l ih =>
    simp only [firstNeg] at h
    split at h
    · simp at h; subst h; refine ⟨by simp, by simpa [List.getD] using by assumption, by omega⟩
    · rename_i hx
      cases hl : firstNeg l with
      | none => rw [hl] at h; simp at h
      | some k =>
        rw [hl] at h; simp at h; subst h
        have := ih hl
        refine ⟨by simp; omega, by simpa [List.getD] using this.2.1, fun j hj => ?_⟩
        cases j with
        | zero => simp [List.getD]; omega
        | succ j => have := this.2.2 j (by omega); simpa [List.getD] using this
theorem firstNeg_none {v : List Int} (h : firstNeg v = none) : ∀ j, j < v.length → 0 ≤ v.getD j 0 := by
  induction v with
  | nil => intro j hj; simp at hj
  | cons x l ih =>
    simp only [firstNeg] at h
    split at h
    · simp at h
    · rename_i hx
      have hl : firstNeg l = none := by cases hl : firstNeg l with
        | none => rfl
        | some k => rw [hl] at h; simp at h
      intro j hj
      cases j with
      | zero => simp [List.getD]; omega
      | succ j => have := ih hl j (by simpa using hj); simpa [List.getD] using this
theorem firstNeg_of {v : List Int} {i : Nat} (hi : i < v.length) (h : v.getD i 0 < 0) (hb : ∀ j, j < i → 0 ≤ v.getD j 0) : firstNeg v = some i := by
  cases hf : firstNeg v with
  | none => have := firstNeg_none hf i hi; omega
  | some k =>
    have hk := firstNeg_lt hf
    rcases Nat.lt_trichotomy i k with h1 | h1 | h1
    · have := hk.2.2 i h1; omega
    · rw [h1]
    · have := hb k h1; omega
theorem firstNeg_nil {v : List Int} (hb : ∀ j, j < v.length → 0 ≤ v.getD j 0) : firstNeg v = none := by
  cases hf : firstNeg v with
  | none => rfl
  | some k => have hk := firstNeg_lt hf; have := hb k hk.1; omega

set_option maxHeartbeats 1000000 in
theorem impl_firstDescent_any (g o n cp : Nat) (v : List Int) (w : World) (hn : v.length = n) (hx : v.length ≤ 1048576) (hc : Cells w g o v) :
    Calls Tryz.prog 147 #[(Value.slice (some ⟨g, o, none⟩) n cp)] w (Reads w (.int .i64 (firstNegI v))) := by
  subst hn
  go_enter Tryz.func147, Tryz.ntmps147
  go_wp2
  go_loopw [7] (fun i wr => ∃ k : Nat, k ≤ v.length ∧ i = .int .i64 k ∧ Hid (∀ j, j < k → 0 ≤ v.getD j 0) ∧ ∃ m, wr = w.drewN m) (fun i _ => v.length - (intOf i).toNat)
  case atStart => exact ⟨0, Nat.zero_le _, rfl, fun j hj => absurd hj (by omega), (by first | exact ⟨_, rfl⟩ | exact ⟨0, rfl⟩ | exact still2 _ _ _ | exact still3 _ _ _ _)⟩
  case round =>
    obtain ⟨k, hk, rfl, hall, m, rfl⟩ := hrel
    by_cases hlt : k < v.length
    · have q1 := hc k hlt
      have HX : Hid (v.getD k 0 < 0 → firstNegI v = k) := fun h => by unfold firstNegI; rw [firstNeg_of hlt h hall.out]
      have HY : Hid (0 ≤ v.getD k 0 → ∀ j, j < k + 1 → 0 ≤ v.getD j 0) := fun h j hj => by
        by_cases e : j = k
        · subst e; exact h
        · exact hall.out j (by omega)
      generalize v.getD k 0 = x at *
      by_cases hneg : x < 0
      · have hf := HX.out hneg
        have Hf := Lib.hid hf; clear hf
        go_wp2
        go_ret
        exact ⟨ret_int Hf.out.symm, (by first | exact ⟨_, rfl⟩ | exact ⟨0, rfl⟩ | exact still2 _ _ _ | exact still3 _ _ _ _)⟩
      · go_wp2
        go_roundw
        case rel => exact ⟨k + 1, by omega, by go_num, HY.out (by omega), (by first | exact ⟨_, rfl⟩ | exact ⟨0, rfl⟩ | exact still2 _ _ _ | exact still3 _ _ _ _)⟩
        case measure => simp [intOf]; omega
    · obtain rfl : k = v.length := by omega
      have hf : firstNegI v = -1 := by unfold firstNegI; rw [firstNeg_nil hall.out]
      have Hf := Lib.hid hf; clear hf
      go_wp2
      go_ret
      exact ⟨ret_int Hf.out.symm, (by first | exact ⟨_, rfl⟩ | exact ⟨0, rfl⟩ | exact still2 _ _ _ | exact still3 _ _ _ _)⟩

set_option maxHeartbeats 1000000 in
theorem impl_IsDominant_any (g o n cp : Nat) (v : List Int) (w : World) (hn : v.length = n) (hx : v.length ≤ 1048576) (hc : Cells w g o v) :
    Calls Tryz.prog 100 #[(Value.slice (some ⟨g, o, none⟩) n cp)] w (Reads w (.bool (firstNeg v).isNone)) := by
  have e : (firstNeg v).isNone = decide (firstNegI v < 0) := by
    unfold firstNegI
    cases firstNeg v with
    | none => rfl
    | some i => simp
  rw [e]
  go_enter Tryz.func100, Tryz.ntmps100
  go_wp2_with fail
  refine (impl_firstDescent_any g o n cp v w hn hx hc).mono ?_
  rintro e w1 ⟨rfl, m1, rfl⟩
  go_wp2_with fail
  go_ret
  exact ⟨rfl, (by first | exact ⟨_, rfl⟩ | exact ⟨0, rfl⟩ | exact still2 _ _ _ | exact still3 _ _ _ _)⟩

/-- a word applied, the last letter first -/
def actW (c : List (List Int)) : List Int → List Int → List Int
  | [], v => v
  | i :: l, v => refl c i.toNat (actW c l v)
theorem actW_length (c : List (List Int)) (l v : List Int) : (actW c l v).length = v.length := by
  induction l with
  | nil => rfl
  | cons i l ih => simp [actW, refl_length, ih]
theorem actW_drop (c : List (List Int)) (l v : List Int) (k : Nat) (hk : k < l.length) : actW c (l.drop k) v = refl c (l.getD k 0).toNat (actW c (l.drop (k + 1)) v) := by
  have e : l.drop k = l[k] :: l.drop (k + 1) := List.drop_eq_getElem_cons hk
  rw [e]; simp [actW, List.getD, hk]

set_option maxHeartbeats 2000000 in
theorem impl_acted_any (gc oc n cc g1 o1 n1 c1 g2 o2 n2 c2 : Nat) (c : List (List Int)) (l v : List Int) (w : World) (hn : c.length = n) (hn1 : l.length = n1) (hn2 : v.length = n2) (hC : IsC c) (hv : v.length = c.length) (hl : l.length ≤ 1048576)
    (hin : ∀ k, k < l.length → 0 ≤ l.getD k 0 ∧ l.getD k 0 < c.length) (hgc : gc < w.heap.size) (hg1 : g1 < w.heap.size) (hg2 : g2 < w.heap.size) (hr : Rows2 w gc oc c) (hc1 : Cells w g1 o1 l) (hc2 : Cells w g2 o2 v) :
    Calls Tryz.prog 103 #[(Value.slice (some ⟨gc, oc, none⟩) n cc), (Value.slice (some ⟨g1, o1, none⟩) n1 c1), (Value.slice (some ⟨g2, o2, none⟩) n2 c2)] w (GotInts w (actW c l v)) := by
  subst hn; subst hn1; subst hn2
  have hn4 := hC.2.1
  have ew : IntKind.i64.wrap ((l.length : Int) - 1) = (l.length : Int) - 1 := IntWalk.i64_in _ (by omega)
  have hv4 : v.length ≤ 4 := by omega
  have Hv := Lib.hid hv; clear hv
  go_enter Tryz.func103, Tryz.ntmps103
  go_wp2_with (at_builtin; refine wpList_clone rfl _ _ rfl g2 o2 _ c2 v rfl hg2 hc2 rfl rfl (by omega) ?_)
  intro gv cv w1 ho1 hb1
  go_wp2
  clear ew
  go_loopw [8] (fun i wr => ∃ (k : Nat) (j : Int), k ≤ l.length ∧ i = .int .i64 j ∧ j = (k : Int) - 1 ∧ Own wr w.heap.size gv cv (actW c (l.drop k) v) ∧ Below w.heap.size w wr) (fun i _ => (intOf i + 1).toNat)
  case atStart => exact ⟨l.length, _, Nat.le_refl _, rfl, rfl, by rw [List.drop_length]; exact ho1, hb1⟩
  case round =>
    obtain ⟨k, j, hk, rfl, hj, ho, hb⟩ := hrel
    by_cases hlt : 0 < k
    · obtain ⟨t, rfl⟩ : ∃ t, k = t + 1 := ⟨k - 1, by omega⟩
      obtain rfl : j = (t : Int) := by omega
      have htl : t < l.length := by omega
      have q1 := hc1.below hb hg1 t htl
      have hit := hin t htl
      have hd := actW_drop c l v t htl
      obtain ⟨iN, hiN⟩ : ∃ iN : Nat, l.getD t 0 = iN := ⟨(l.getD t 0).toNat, by omega⟩
      rw [hiN] at q1 hit hd
      rw [Int.toNat_natCast] at hd
      have hic : iN < c.length := by omega
      have hal : (actW c (l.drop (t + 1)) v).length = v.length := actW_length _ _ _
      have hcall := impl_reflected_any w gc oc _ cc gv cv iN v.length c (actW c (l.drop (t + 1)) v) wr rfl hal (by rw [hal]; exact Hv.out) hn4 hC.2.2.1 hic hgc hr hb ho
      have Hcall := Lib.hid hcall; have Hd := Lib.hid hd
      clear hcall hd hiN hal hit
      clear hj
      go_wp2_with fail
      refine Hcall.out.mono ?_
      rintro e w2 ⟨rfl, ho2, hg2⟩
      go_wp2_with fail
      go_roundw
      case rel =>
        rw [← Hd.out] at ho2
        exact ⟨t, (t : Int) - 1, by omega, by go_num, rfl, ho2, hb.grown hg2 hb.size (by intro j hj; cases hj; exact ho.base)⟩
      case measure => simp [intOf]
    · obtain rfl : k = 0 := by omega
      obtain rfl : j = -1 := by omega
      clear hj
      go_wp2
      go_ret
      exact GotInts.mk' gv cv (actW_length _ _ _) ho hb
end Go.Proofs.YtnpechcnmchneaaGreatDoor
