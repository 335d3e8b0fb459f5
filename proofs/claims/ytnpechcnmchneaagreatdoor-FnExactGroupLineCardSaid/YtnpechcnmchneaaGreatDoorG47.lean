/- The reference's l2Cut: contract. SizeByName of the reference at names of parts: contract. SizeOf and DeterminantOf of both: contracts. -/
import Derived.Test.YtnpechcnmchneaaGreatDoorG45
import Derived.Test.YtnpechcnmchneaaGreatDoorG46
import Derived.Test.YtnpechcnmchneaaGreatDoorG09
namespace Go.Proofs.YtnpechcnmchneaaGreatDoor
set_option maxRecDepth 100000
open Go.RowKit
open Go.Lib (join)

def cutG (c : UInt8) (st : List Bs × Bs) (b : UInt8) : List Bs × Bs := if b = c then (st.1 ++ [st.2], []) else (st.1, st.2 ++ [b])
def cutN (c : UInt8) (s : Bs) (k : Nat) : List Bs × Bs := (s.take k).foldl (cutG c) ([], [])
theorem cutN_succ (c : UInt8) (s : Bs) (k : Nat) (hk : k < s.length) : cutN c s (k + 1) = cutG c (cutN c s k) s[k] := by
  unfold cutN
  rw [List.take_succ_eq_append_getElem hk, List.foldl_append]
  rfl
theorem cut_plain (c : UInt8) : ∀ (x : Bs) (st : List Bs × Bs), c ∉ x → x.foldl (cutG c) st = (st.1, st.2 ++ x)
  | [], st, _ => by simp
  | b :: x, st, h => by
    have hb : b ≠ c := fun e => h (by simp [e])
    rw [List.foldl_cons, show cutG c st b = (st.1, st.2 ++ [b]) from if_neg hb, cut_plain c x _ (fun hm => h (by simp [hm]))]
    simp
theorem cut_join (c : UInt8) : ∀ (L : List Bs) (out : List Bs), L ≠ [] → (∀ x ∈ L, c ∉ x) → ((join L [c]).foldl (cutG c) (out, [])).1 ++ [((join L [c]).foldl (cutG c) (out, [])).2] = out ++ L
  | [], _, h, _ => absurd rfl h
  | [x], out, _, h => by
    have e : join [x] [c] = x := by simp [join, List.intercalate]
    rw [e, cut_plain c x _ (h x (by simp))]
    simp
  | x :: y :: L, out, _, h => by
    have ih := cut_join c (y :: L) (out ++ [x]) (by simp) fun z hz => h z (by simp [hz])
    have e : join (x :: y :: L) [c] = x ++ c :: join (y :: L) [c] := by simp [join, List.intercalate, List.intersperse]
    rw [e, List.foldl_append, cut_plain c x _ (h x (by simp)), List.foldl_cons, show cutG c (out, [] ++ x) c = (out ++ [x], []) from by simp [cutG]]
    rw [ih]
    simp
theorem cutN_len (c : UInt8) (s : Bs) : ∀ k, k ≤ s.length → (cutN c s k).1.length ≤ k ∧ (cutN c s k).2.length ≤ k
  | 0, _ => by simp [cutN]
  | k + 1, hk => by
    have ih := cutN_len c s k (by omega)
    rw [cutN_succ c s k (by omega)]
    unfold cutG
    split
    · simp; omega
    · simp; omega

set_option maxHeartbeats 1000000 in
theorem spec_l2Cut_ok (s : Bs) (c : UInt8) (w : World) (hl : s.length ≤ 100000) :
    Calls Tryz.prog 115 #[.string ⟨s.toArray⟩, .int .u8 (c.toNat : Int)] w fun e w' => ∃ g cap, e = .returned (Value.slice (some ⟨g, 0, none⟩) ((cutN c s s.length).1.length + 1) cap) ∧ OwnStrs w' w.heap.size g cap (strs ((cutN c s s.length).1 ++ [(cutN c s s.length).2])) ∧ Below w.heap.size w w' := by
  go_enter Tryz.func115, Tryz.ntmps115
  go_wp2_with fail
  go_loopw [5, 6, 7] (fun ov pv iv wr => ∃ (k gO cO p : Nat), k ≤ s.length ∧ p ≤ k ∧ iv = .int .i64 k ∧ pv = .string ⟨(cutN c s k).2.toArray⟩ ∧ ov = (Value.slice (some ⟨gO, 0, none⟩) p cO) ∧ Hid ((cutN c s k).1.length = p) ∧ OwnStrs wr w.heap.size gO cO (strs (cutN c s k).1) ∧ Below w.heap.size w wr) (fun _ _ iv _ => s.length - (intOf iv).toNat)
  case atStart => exact ⟨0, w.heap.size, 0, 0, Nat.zero_le _, Nat.le_refl _, rfl, rfl, rfl, rfl, OwnStrs.empty (Nat.le_refl _), (Below.refl _ _).alloc (Nat.le_refl _) _⟩
  case round =>
    obtain ⟨k, gO, cO, p, hk, hpk, rfl, rfl, rfl, hp, ho, hb⟩ := hrel
    by_cases hlt : k < s.length
    · have hsucc := cutN_succ c s k hlt
      have hx : (⟨s.toArray⟩ : ByteArray)[k]'(by simpa [ByteArray.size] using hlt) = s[k] := by
        show s.toArray[k] = s[k]
        simp
      by_cases hc : s[k] = c
      · have hl2 : Hid ((strs (cutN c s k).1).length = p) := Lib.hid (by unfold strs; rw [List.length_map]; exact hp.out)
        have hB : ((s[k].toNat : Int) == (c.toNat : Int)) = true := by
          rw [beq_iff_eq, hc]
        go_wp2_with (at_builtin; refine wpList_append_str rfl _ _ rfl w.heap.size gO cO p wr.heap.size (strs (cutN c s k).1) ⟨(cutN c s k).2.toArray⟩ wr _ hl2.out rfl rfl ho rfl rfl (by omega) ?_)
        intro g9 c9 w9 ho9 hg9 hor9
        have hb9 := hb.grown hg9 hb.size (by intro t ht; cases ht; exact OwnK.base ho)
        have hn : cutN c s (k + 1) = ((cutN c s k).1 ++ [(cutN c s k).2], []) := by rw [hsucc]; unfold cutG; rw [if_pos hc]
        have ho10 : OwnStrs w9 w.heap.size g9 c9 (strs (cutN c s (k + 1)).1) := by
          have e : strs (cutN c s (k + 1)).1 = strs (cutN c s k).1 ++ [⟨(cutN c s k).2.toArray⟩] := by rw [hn]; simp [strs]
          rw [e]
          exact ho9
        clear ho9 hg9 hor9 hb ho
        go_wp2_with fail
        refine ⟨⟨k + 1, g9, c9, p + 1, by omega, by omega, rfl, by rw [hn], rfl, Lib.hid (by rw [hn, List.length_append, hp.out, List.length_singleton]), ho10, hb9⟩, ?_⟩
        simp only [intOf]
        omega
      · have hn : cutN c s (k + 1) = ((cutN c s k).1, (cutN c s k).2 ++ [s[k]]) := by rw [hsucc]; unfold cutG; rw [if_neg hc]
        have hB : ((s[k].toNat : Int) == (c.toNat : Int)) = false := by
          rw [beq_eq_false_iff_ne]
          intro h
          exact hc (UInt8.toNat_inj.mp (by omega))
        have e1 := addS wr (cutN c s k).2 [s[k]] _ rfl (by have := (cutN_len c s k hk).2; simp only [List.length_append, List.length_cons, List.length_nil]; omega)
        have e2 : (⟨s.toArray⟩ : ByteArray).extract k (k + 1) = ⟨([s[k]] : Bs).toArray⟩ := by
          apply ByteArray.ext
          simp [ByteArray.data_extract]
          rw [List.drop_eq_getElem_cons hlt]
          rfl
        go_wp2_with fail
        refine ⟨⟨k + 1, gO, cO, p, by omega, by omega, rfl, by rw [hn], rfl, Lib.hid (by rw [hn]; exact hp.out), by rw [hn]; exact ho, hb⟩, ?_⟩
        simp only [intOf]
        omega
    · obtain rfl : k = s.length := by omega
      have hl2 : Hid ((strs (cutN c s s.length).1).length = p) := Lib.hid (by unfold strs; rw [List.length_map]; exact hp.out)
      go_wp2_with (at_builtin; refine wpList_append_str rfl _ _ rfl w.heap.size gO cO p wr.heap.size (strs (cutN c s s.length).1) ⟨(cutN c s s.length).2.toArray⟩ wr _ hl2.out rfl rfl ho rfl rfl (by omega) ?_)
      intro g9 c9 w9 ho9 hg9 hor9
      have hb9 := hb.grown hg9 hb.size (by intro t ht; cases ht; exact OwnK.base ho)
      have ho10 : OwnStrs w9 w.heap.size g9 c9 (strs ((cutN c s s.length).1 ++ [(cutN c s s.length).2])) := by
        have e : strs ((cutN c s s.length).1 ++ [(cutN c s s.length).2]) = strs (cutN c s s.length).1 ++ [⟨(cutN c s s.length).2.toArray⟩] := by simp [strs]
        rw [e]
        exact ho9
      clear ho9 hg9 hor9 hb ho
      go_wp2_with fail
      go_ret
      exact ⟨g9, c9, by rw [hp.out]; rfl, ho10, hb9⟩
end Go.Proofs.YtnpechcnmchneaaGreatDoor
namespace Go.Proofs.YtnpechcnmchneaaGreatDoor
set_option maxRecDepth 100000
open Go.RowKit
open Go.Lib (join)

theorem cut_names {c : UInt8} {L : List Bs} (hL : L ≠ []) (h : ∀ x ∈ L, c ∉ x) :
    (cutN c (join L [c]) (join L [c]).length).1 ++ [(cutN c (join L [c]) (join L [c]).length).2] = L := by
  have e := cut_join c L [] hL h
  unfold cutN
  rw [List.take_length]
  exact e

set_option maxHeartbeats 2000000 in
theorem spec_SizeByName_ok (L : List Bs) (w : World) (hL : L ≠ []) (hl4 : L.length ≤ 4) (h : ∀ s ∈ L, s ∈ names17) :
    Calls Tryz.prog 62 #[.string ⟨(join L [120]).toArray⟩] w (Gives w (.int .i64 (prodT L))) := by
  have hj := join_len 120 L (fun x hx => (names_noX _ (h x hx)).2.1)
  have hs := spec_l2Cut_ok (join L [120]) 120 w (by omega)
  have hcut := cut_names hL (fun x hx => (names_noX _ (h x hx)).1)
  have hlen : (cutN 120 (join L [120]) (join L [120]).length).1.length + 1 = L.length := by
    have := congrArg List.length hcut
    rw [List.length_append] at this
    exact this
  rw [hcut, hlen] at hs
  have HS := Lib.hid hs
  have HM := Lib.hid (fun k (hk : k < L.length) => h (L.getD k []) (by simp [List.getD, hk]))
  have HB := Lib.hid (fun k (hk : k ≤ L.length) => prodT_bound h k hk)
  have HP := Lib.hid (fun k (hk : k < L.length) => prodT_succ L k hk)
  have HA : Hid (prodT (L.take L.length) = prodT L) := Lib.hid (by rw [List.take_length])
  clear hs h hcut hlen hj
  generalize prodT L = R at *
  generalize (⟨(join L [120]).toArray⟩ : ByteArray) = nm at *
  go_enter Tryz.func62, Tryz.ntmps62
  go_wp2_with fail
  refine HS.out.mono ?_
  rintro e w1 ⟨g1, c1, rfl, ho1, hb1⟩
  clear HS
  go_wp2_with fail
  go_loopw [4, 5, 6] (fun zv kv _ wr => ∃ k : Nat, k ≤ L.length ∧ kv = .int .i64 k ∧ zv = .int .i64 (prodT (L.take k)) ∧ Below w1.heap.size w1 wr) (fun _ kv _ _ => L.length - (intOf kv).toNat)
  case atStart => exact ⟨0, Nat.zero_le _, rfl, rfl, Below.refl _ _⟩
  case round =>
    obtain ⟨k, hk, rfl, rfl, hb⟩ := hrel
    by_cases hlt : k < L.length
    · have hcell := ho1.cell k ⟨(L.getD k []).toArray⟩ (by simp [strs, List.getD, hlt])
      rw [Nat.zero_add] at hcell
      have hcellr := (hb.cell (p := ⟨g1, k, none⟩) (OwnK.lt ho1)).trans hcell
      have hm := HM.out k hlt
      have hpk := HP.out k hlt
      have hbk := HB.out (k + 1) hlt
      have hpw := pw_le (k := k + 1) (by omega)
      rw [hpk] at hbk
      have hw : wrap64 (prodT (L.take k) * sizeT (L.getD k [])) = prodT (L.take k) * sizeT (L.getD k []) := IntWalk.wrap64_in _ ⟨by omega, by omega⟩
      have Hpk := Lib.hid hpk
      clear hpk hcell
      generalize L.getD k [] = s at *
      generalize prodT (L.take k) = x at *
      generalize pw (k + 1) = P at *
      have hN : names17.length = 18 := rfl
      obtain ⟨q, hq, e⟩ := List.mem_iff_getElem.1 hm
      have e2 : names17.getD q [] = s := by simp [List.getD, hq, e]
      rw [hN] at hq
      have hq18 : q = 0 ∨ q = 1 ∨ q = 2 ∨ q = 3 ∨ q = 4 ∨ q = 5 ∨ q = 6 ∨ q = 7 ∨ q = 8 ∨ q = 9 ∨ q = 10 ∨ q = 11 ∨ q = 12 ∨ q = 13 ∨ q = 14 ∨ q = 15 ∨ q = 16 ∨ q = 17 := by omega
      clear e hm hN hq
      subst e2
      rcases hq18 with rfl | rfl | rfl | rfl | rfl | rfl | rfl | rfl | rfl | rfl | rfl | rfl | rfl | rfl | rfl | rfl | rfl | rfl
      · have e : sizeT (names17.getD 0 []) = 2 := by decide
        rw [e] at hw Hpk hbk
        clear e
        go_wp2_with fail
        exact ⟨⟨k + 1, by omega, rfl, by rw [Hpk.out], hb⟩, by simp only [intOf]; omega⟩
      · have e : sizeT (names17.getD 1 []) = 6 := by decide
        rw [e] at hw Hpk hbk
        clear e
        go_wp2_with fail
        exact ⟨⟨k + 1, by omega, rfl, by rw [Hpk.out], hb⟩, by simp only [intOf]; omega⟩
      · have e : sizeT (names17.getD 2 []) = 24 := by decide
        rw [e] at hw Hpk hbk
        clear e
        go_wp2_with fail
        exact ⟨⟨k + 1, by omega, rfl, by rw [Hpk.out], hb⟩, by simp only [intOf]; omega⟩
      · have e : sizeT (names17.getD 3 []) = 120 := by decide
        rw [e] at hw Hpk hbk
        clear e
        go_wp2_with fail
        exact ⟨⟨k + 1, by omega, rfl, by rw [Hpk.out], hb⟩, by simp only [intOf]; omega⟩
      · have e : sizeT (names17.getD 4 []) = 8 := by decide
        rw [e] at hw Hpk hbk
        clear e
        go_wp2_with fail
        exact ⟨⟨k + 1, by omega, rfl, by rw [Hpk.out], hb⟩, by simp only [intOf]; omega⟩
      · have e : sizeT (names17.getD 5 []) = 48 := by decide
        rw [e] at hw Hpk hbk
        clear e
        go_wp2_with fail
        exact ⟨⟨k + 1, by omega, rfl, by rw [Hpk.out], hb⟩, by simp only [intOf]; omega⟩
      · have e : sizeT (names17.getD 6 []) = 384 := by decide
        rw [e] at hw Hpk hbk
        clear e
        go_wp2_with fail
        exact ⟨⟨k + 1, by omega, rfl, by rw [Hpk.out], hb⟩, by simp only [intOf]; omega⟩
      · have e : sizeT (names17.getD 7 []) = 48 := by decide
        rw [e] at hw Hpk hbk
        clear e
        go_wp2_with fail
        exact ⟨⟨k + 1, by omega, rfl, by rw [Hpk.out], hb⟩, by simp only [intOf]; omega⟩
      · have e : sizeT (names17.getD 8 []) = 384 := by decide
        rw [e] at hw Hpk hbk
        clear e
        go_wp2_with fail
        exact ⟨⟨k + 1, by omega, rfl, by rw [Hpk.out], hb⟩, by simp only [intOf]; omega⟩
      · have e : sizeT (names17.getD 9 []) = 192 := by decide
        rw [e] at hw Hpk hbk
        clear e
        go_wp2_with fail
        exact ⟨⟨k + 1, by omega, rfl, by rw [Hpk.out], hb⟩, by simp only [intOf]; omega⟩
      · have e : sizeT (names17.getD 10 []) = 1152 := by decide
        rw [e] at hw Hpk hbk
        clear e
        go_wp2_with fail
        exact ⟨⟨k + 1, by omega, rfl, by rw [Hpk.out], hb⟩, by simp only [intOf]; omega⟩
      · have e : sizeT (names17.getD 11 []) = 12 := by decide
        rw [e] at hw Hpk hbk
        clear e
        go_wp2_with fail
        exact ⟨⟨k + 1, by omega, rfl, by rw [Hpk.out], hb⟩, by simp only [intOf]; omega⟩
      · have e : sizeT (names17.getD 12 []) = 0 := by decide
        rw [e] at hw Hpk hbk
        clear e
        go_wp2_with fail
        exact ⟨⟨k + 1, by omega, rfl, by rw [Hpk.out]; simp, hb⟩, by simp only [intOf]; omega⟩
      · have e : sizeT (names17.getD 13 []) = 0 := by decide
        rw [e] at hw Hpk hbk
        clear e
        go_wp2_with fail
        exact ⟨⟨k + 1, by omega, rfl, by rw [Hpk.out]; simp, hb⟩, by simp only [intOf]; omega⟩
      · have e : sizeT (names17.getD 14 []) = 0 := by decide
        rw [e] at hw Hpk hbk
        clear e
        go_wp2_with fail
        exact ⟨⟨k + 1, by omega, rfl, by rw [Hpk.out]; simp, hb⟩, by simp only [intOf]; omega⟩
      · have e : sizeT (names17.getD 15 []) = 0 := by decide
        rw [e] at hw Hpk hbk
        clear e
        go_wp2_with fail
        exact ⟨⟨k + 1, by omega, rfl, by rw [Hpk.out]; simp, hb⟩, by simp only [intOf]; omega⟩
      · have e : sizeT (names17.getD 16 []) = 0 := by decide
        rw [e] at hw Hpk hbk
        clear e
        go_wp2_with fail
        exact ⟨⟨k + 1, by omega, rfl, by rw [Hpk.out]; simp, hb⟩, by simp only [intOf]; omega⟩
      · have e : sizeT (names17.getD 17 []) = 0 := by decide
        rw [e] at hw Hpk hbk
        clear e
        go_wp2_with fail
        exact ⟨⟨k + 1, by omega, rfl, by rw [Hpk.out]; simp, hb⟩, by simp only [intOf]; omega⟩
    · obtain rfl : k = L.length := by omega
      rw [HA.out]
      have hb9 := hb1.trans (hb.mono hb1.size)
      go_wp2_with fail
      go_ret
      exact ⟨rfl, hb9⟩
end Go.Proofs.YtnpechcnmchneaaGreatDoor
namespace Go.Proofs.YtnpechcnmchneaaGreatDoor
set_option maxRecDepth 100000
open Go.RowKit
open Go.Lib (join)

def part1 (c : List (List Int)) : Bool := decide (1 ≤ (partsL c).length)
theorem part1_1 : part1 [[1]] = true := by kernel_rfl
theorem part1_2 : (Z2.all fun a => part1 (zm2 a)) = true := by kernel_rfl
theorem part1_3 : (Z2.all fun a => Z2.all fun b => Z2.all fun e => part1 (zm3 a b e)) = true := by kernel_rfl
theorem part1_4 : (Z2.all fun a => Z2.all fun b => Z2.all fun d => Z2.all fun e => Z2.all fun f => Z2.all fun g => part1 (zm4 a b d e f g)) = true := by kernel_rfl
theorem parts_pos {c : List (List Int)} (hC : IsC c) : 1 ≤ (partsL c).length := by
  have h := zo_all part1 part1_1 part1_2 part1_3 part1_4 hC
  unfold part1 at h
  rw [partsL_zo] at h
  exact of_decide_eq_true h
theorem nameL_len {c : List (List Int)} (hC : IsC c) : nameL c ≠ [] ∧ (nameL c).length ≤ 4 ∧ ∀ s ∈ nameL c, s ∈ names17 := by
  obtain ⟨seen, hP⟩ := parts_are hC
  have h1 := parts_pos hC
  have h2 := hP.len
  have e : (nameL c).length = (partsL c).length := by unfold nameL; rw [List.length_map]
  refine ⟨fun h => ?_, by omega, fun s hs => ?_⟩
  · rw [h, List.length_nil] at e; omega
  · obtain ⟨p, -, rfl⟩ := List.mem_map.1 hs
    exact nameP_mem _
/-- the size of the group, 0 if it is not finite -/
def szO (c : List (List Int)) : Int := if finB c = true then prodT (nameL c) else 0
theorem szO_bound (c : List (List Int)) : 0 ≤ szO c ∧ szO c ≤ 1761205026816 := by
  unfold szO
  split
  · rename_i hf
    have hC : IsC c := by unfold finB at hf; exact of_decide_eq_true (Bool.and_eq_true_iff.1 hf).1
    obtain ⟨h1, h2, h3⟩ := nameL_len hC
    have h := prodT_bound h3 (nameL c).length (Nat.le_refl _)
    rw [List.take_length] at h
    have := pw_le h2
    omega
  · omega
theorem fin_isC {c : List (List Int)} (hf : finB c = true) : IsC c := by unfold finB at hf; exact of_decide_eq_true (Bool.and_eq_true_iff.1 hf).1

set_option maxHeartbeats 1000000 in
theorem impl_SizeOf_any (gc oc n cc : Nat) (c : List (List Int)) (w : World) (hn : c.length = n) (hx : c.length ≤ 1048576) (hrl : ∀ j, j < c.length → (c.getD j []).length ≤ 1048576) (hgc : gc < w.heap.size) (hr : Rows2 w gc oc c) (hm : MaxL w) :
    Calls Tryz.prog 32 #[(Value.slice (some ⟨gc, oc, none⟩) n cc)] w (Gives w (.int .i64 (szO c))) := by
  have HF := impl_IsFinite_any gc oc n cc c w hn hx hrl hgc hr
  by_cases hf : finB c = true
  · have hC := fin_isC hf
    have hs : szO c = prodT (nameL c) := if_pos hf
    obtain ⟨h1, h2, h3⟩ := nameL_len hC
    have HN := Lib.hid (fun W (hW : Below w.heap.size w W) => impl_NameOf_ok gc oc n cc c W hn hC (Nat.lt_of_lt_of_le hgc hW.size) (hr.below hW hgc) (hm.below hW))
    have HZ := Lib.hid (fun W (hW : Below w.heap.size w W) => impl_SizeByName_ok (nameL c) W h1 h2 h3 (hm.below hW))
    rw [hf] at HF
    rw [hs]
    clear h1 h2 h3 hs hf hx hrl hn hr
    generalize prodT (nameL c) = R at *
    generalize (⟨(join (nameL c) [120]).toArray⟩ : ByteArray) = nm at *
    go_enter Tryz.func32, Tryz.ntmps32
    go_wp2_with fail
    refine HF.mono ?_
    rintro e w1 ⟨rfl, hb1⟩
    go_wp2_with fail
    refine (HN.out w1 hb1).mono ?_
    rintro e w2 ⟨rfl, hb2⟩
    have hb3 := hb1.trans (hb2.mono hb1.size)
    go_wp2_with fail
    refine (HZ.out w2 hb3).mono ?_
    rintro e w4 ⟨rfl, hb4⟩
    have hb5 := hb3.trans (hb4.mono hb3.size)
    go_wp2_with fail
    go_ret
    exact ⟨rfl, hb5⟩
  · have hf' : finB c = false := by simpa using hf
    have hs : szO c = 0 := if_neg hf
    rw [hs]
    rw [hf'] at HF
    clear hs hf hf' hx hrl hn hr
    go_enter Tryz.func32, Tryz.ntmps32
    go_wp2_with fail
    refine HF.mono ?_
    rintro e w1 ⟨rfl, hb1⟩
    go_wp2_with fail
    go_ret
    exact ⟨rfl, hb1⟩

set_option maxHeartbeats 1000000 in
theorem spec_SizeOf_any (gc oc n cc : Nat) (c : List (List Int)) (w : World) (hn : c.length = n) (hx : c.length ≤ 1048576) (hrl : ∀ j, j < c.length → (c.getD j []).length ≤ 1048576) (hgc : gc < w.heap.size) (hr : Rows2 w gc oc c) :
    Calls Tryz.prog 21 #[(Value.slice (some ⟨gc, oc, none⟩) n cc)] w (Gives w (.int .i64 (szO c))) := by
  have HF := spec_IsFinite_any gc oc n cc c w hn hx hrl hgc hr
  by_cases hf : finB c = true
  · have hC := fin_isC hf
    have hs : szO c = prodT (nameL c) := if_pos hf
    obtain ⟨h1, h2, h3⟩ := nameL_len hC
    have HN := Lib.hid (fun W (hW : Below w.heap.size w W) => spec_NameOf_ok gc oc n cc c W hn hC (Nat.lt_of_lt_of_le hgc hW.size) (hr.below hW hgc))
    have HZ := Lib.hid (fun W => spec_SizeByName_ok (nameL c) W h1 h2 h3)
    rw [hf] at HF
    rw [hs]
    clear h1 h2 h3 hs hf hx hrl hn hr
    generalize prodT (nameL c) = R at *
    generalize (⟨(join (nameL c) [120]).toArray⟩ : ByteArray) = nm at *
    go_enter Tryz.func21, Tryz.ntmps21
    go_wp2_with fail
    refine HF.mono ?_
    rintro e w1 ⟨rfl, hb1⟩
    go_wp2_with fail
    refine (HN.out w1 hb1).mono ?_
    rintro e w2 ⟨rfl, hb2⟩
    have hb3 := hb1.trans (hb2.mono hb1.size)
    go_wp2_with fail
    refine (HZ.out w2).mono ?_
    rintro e w4 ⟨rfl, hb4⟩
    have hb5 := hb3.trans (hb4.mono hb3.size)
    go_wp2_with fail
    go_ret
    exact ⟨rfl, hb5⟩
  · have hf' : finB c = false := by simpa using hf
    have hs : szO c = 0 := if_neg hf
    rw [hs]
    rw [hf'] at HF
    clear hs hf hf' hx hrl hn hr
    go_enter Tryz.func21, Tryz.ntmps21
    go_wp2_with fail
    refine HF.mono ?_
    rintro e w1 ⟨rfl, hb1⟩
    go_wp2_with fail
    go_ret
    exact ⟨rfl, hb1⟩

theorem isC_sq {c : List (List Int)} (hC : IsC c) : Sq c.length c := ⟨rfl, hC.2.2.1, ent_bound hC⟩
set_option maxHeartbeats 1000000 in
theorem impl_DeterminantOf_ok (gc oc n cc : Nat) (c : List (List Int)) (w : World) (hn : c.length = n) (hC : IsC c) (hcap : n ≤ cc) (hgc : gc < w.heap.size) (hr : Rows2 w gc oc c) :
    Calls Tryz.prog 37 #[(Value.slice (some ⟨gc, oc, none⟩) n cc)] w (Gives w (.int .i64 (det n c))) := by
  have hs : Sq n c := hn ▸ isC_sq hC
  have h4 : n ≤ 4 := by have := hC.2.1; omega
  have HD := Lib.hid (fun W (hW : Below w.heap.size w W) => impl_determinant_any n h4 gc oc cc c W hs (Nat.lt_of_lt_of_le hgc hW.size) hcap (hr.below hW hgc))
  go_enter Tryz.func37, Tryz.ntmps37
  go_wp2_with fail
  refine (impl_IsCartan gc oc n cc c w hn (by omega) (fun j hj => by have := hC.2.2.1 j hj; have := hC.2.1; omega) hr).mono ?_
  rintro e w1 ⟨rfl, m1, rfl⟩
  rw [decide_eq_true hC]
  have hb1 : Below w.heap.size w (w.drewN m1) := below_drewN' w m1
  go_wp2_with fail
  refine (HD.out _ hb1).mono ?_
  rintro e w2 ⟨rfl, hb2⟩
  have hb5 := hb1.trans (hb2.mono hb1.size)
  go_wp2_with fail
  go_ret
  exact ⟨rfl, hb5⟩
set_option maxHeartbeats 1000000 in
theorem spec_DeterminantOf_ok (gc oc n cc : Nat) (c : List (List Int)) (w : World) (hn : c.length = n) (hC : IsC c) (hgc : gc < w.heap.size) (hr : Rows2 w gc oc c) :
    Calls Tryz.prog 25 #[(Value.slice (some ⟨gc, oc, none⟩) n cc)] w (Gives w (.int .i64 (det n c))) := by
  have hs : Sq n c := hn ▸ isC_sq hC
  have h4 : n ≤ 4 := by have := hC.2.1; omega
  have HD := Lib.hid (fun W (hW : Below w.heap.size w W) => spec_l4Det_any n h4 gc oc cc c W hs (Nat.lt_of_lt_of_le hgc hW.size) (hr.below hW hgc))
  go_enter Tryz.func25, Tryz.ntmps25
  go_wp2_with fail
  refine (spec_IsCartan gc oc n cc c w hn (by omega) (fun j hj => by have := hC.2.2.1 j hj; have := hC.2.1; omega) hr).mono ?_
  rintro e w1 ⟨rfl, m1, rfl⟩
  rw [decide_eq_true hC]
  have hb1 : Below w.heap.size w (w.drewN m1) := below_drewN' w m1
  go_wp2_with fail
  refine (HD.out _ hb1).mono ?_
  rintro e w2 ⟨rfl, hb2⟩
  have hb5 := hb1.trans (hb2.mono hb1.size)
  go_wp2_with fail
  go_ret
  exact ⟨rfl, hb5⟩
end Go.Proofs.YtnpechcnmchneaaGreatDoor
