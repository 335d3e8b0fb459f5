/- GroupLine of the reference: contract. Printed by wip/mkgl.py. The program's joinInts, FormatWeight, FormatRoots, FormatCartan, FormatWord: contracts; they want the laid table of powers of ten. -/
import Derived.Test.YtnpechcnmchneaaGreatDoorG48
import Derived.Test.YtnpechcnmchneaaGreatDoorG38
namespace Go.Proofs.YtnpechcnmchneaaGreatDoor
set_option maxRecDepth 100000
open Go.RowKit Game
open Go.Lib (join itoa)

set_option maxHeartbeats 2000000 in
theorem spec_GroupLine_fin (gc oc n cc : Nat) (c : List (List Int)) (w : World) (hn : c.length = n) (hC : IsC c) (hf : finB c = true) (hgc : gc < w.heap.size) (hr : Rows2 w gc oc c) :
    Calls Tryz.prog 6 #[(Value.slice (some ⟨gc, oc, none⟩) n cc)] w (Gives w (.string ⟨(groupL c).toArray⟩)) := by
  have hgl : groupL c = glFS (join (nameL c) [120]) (growL c) (itoa (szO c)) (itoa ((longN c).length : Int)) (itoa (coxN c : Int)) (itoa (det c.length c)) (itoa ((symO c).length : Int)) := by
    rw [← glF_eq]; unfold groupL; rw [if_pos hC, if_pos hf]
  rw [hgl]
  clear hgl
  have h4 := hC.2.1
  have hx : c.length ≤ 1048576 := by omega
  have hrl : ∀ j, j < c.length → (c.getD j []).length ≤ 1048576 := fun j hj => by have := hC.2.2.1 j hj; omega
  have hdn : det n c = det c.length c := by rw [hn]
  obtain ⟨hd1, hd2⟩ := det_b hC
  have hy := symO_len hC
  have hwd := wf_big (x := det c.length c) (by omega) (by omega)
  have hwy := wf_big (x := ((symO c).length : Int)) (by omega) (by omega)
  have lN : (join (nameL c) [120]).length ≤ 16 := by
    have h3 := nameL_len hC
    have := join_len 120 (nameL c) (fun x hx => (names_noX _ (h3.2.2 x hx)).2.1)
    omega
  have lG := growL_len c
  have lD := itoa_b (x := det c.length c) (by omega) (by omega)
  have lY := itoa_b (x := ((symO c).length : Int)) (by omega) (by omega)
  have hcart := spec_IsCartan gc oc n cc c w hn (by omega) (fun j hj => by have := hC.2.2.1 j hj; omega) hr
  rw [decide_eq_true hC] at hcart
  have HN := Lib.hid (fun W (hb : Below w.heap.size w W) => spec_NameOf_ok gc oc n cc c W hn hC (Nat.lt_of_lt_of_le hgc hb.size) (hr.below hb hgc))
  have HG := Lib.hid (fun W (hb : Below w.heap.size w W) => by
    have := spec_GrowthKind_any gc oc n cc c W hn hx hrl (Nat.lt_of_lt_of_le hgc hb.size) (hr.below hb hgc)
    rwa [growS_L hC] at this)
  have HF := Lib.hid (fun W (hb : Below w.heap.size w W) => by
    have := spec_IsFinite_any gc oc n cc c W hn hx hrl (Nat.lt_of_lt_of_le hgc hb.size) (hr.below hb hgc)
    rwa [hf] at this)
  have HD := Lib.hid (fun W (hb : Below w.heap.size w W) => by
    have := spec_DeterminantOf_ok gc oc n cc c W hn hC (Nat.lt_of_lt_of_le hgc hb.size) (hr.below hb hgc)
    rwa [hdn] at this)
  have HY := Lib.hid (fun W (hb : Below w.heap.size w W) => spec_SymmetriesOf_ok gc oc n cc c W hn hC (Nat.lt_of_lt_of_le hgc hb.size) (hr.below hb hgc))
  have HID := Lib.hid (fun W => spec_FormatInt_any (det c.length c) W hwd)
  have HIY := Lib.hid (fun W => spec_FormatInt_any ((symO c).length : Int) W hwy)
  have hyl : ((symO c).map intsOf).length = (symO c).length := List.length_map _
  have HYL := Lib.hid hyl
  obtain ⟨hlong, hl24⟩ := longN_ok hC hf
  obtain ⟨hs1, hs2⟩ := szO_bound c
  have hx12 := (cox_ok hC hf).2.1
  have hws := wf_big (x := szO c) (by omega) (by omega)
  have hwl := wf_big (x := ((longN c).length : Int)) (by omega) (by omega)
  have hwx := wf_big (x := (coxN c : Int)) (by omega) (by omega)
  have lS := itoa_b (x := szO c) (by omega) (by omega)
  have lL := itoa_b (x := ((longN c).length : Int)) (by omega) (by omega)
  have lX := itoa_b (x := (coxN c : Int)) (by omega) (by omega)
  have HL := Lib.hid (fun W (hb : Below w.heap.size w W) => spec_LongestElement_ok gc oc n cc c (longN c) W hn hC hf hlong (Nat.lt_of_lt_of_le hgc hb.size) (hr.below hb hgc))
  have HS := Lib.hid (fun W (hb : Below w.heap.size w W) => spec_SizeOf_any gc oc n cc c W hn hx hrl (Nat.lt_of_lt_of_le hgc hb.size) (hr.below hb hgc))
  have HX := Lib.hid (fun W (hb : Below w.heap.size w W) => spec_CoxeterNumber_ok gc oc n cc c W hn hf (Nat.lt_of_lt_of_le hgc hb.size) (hr.below hb hgc))
  have HIS := Lib.hid (fun W => spec_FormatInt_any (szO c) W hws)
  have HIL := Lib.hid (fun W => spec_FormatInt_any ((longN c).length : Int) W hwl)
  have HIX := Lib.hid (fun W => spec_FormatInt_any (coxN c : Int) W hwx)
  clear hlong hs1 hs2 hws hwl hwx hr hx hrl hdn hd1 hd2 hy hwd hwy hf hC hn hyl
  generalize join (nameL c) [120] = N at *
  generalize growL c = G at *
  generalize itoa (det c.length c) = D at *
  generalize itoa ((symO c).length : Int) = Y at *
  generalize itoa (szO c) = S at *
  generalize itoa ((longN c).length : Int) = L at *
  generalize itoa (coxN c : Int) = X at *
  obtain ⟨s1, e1, q1⟩ := addG (N) N.toArray rfl [32] (by simp only [List.length_append, List.length_cons, List.length_nil]; omega)
  obtain ⟨s2, e2, q2⟩ := addG (N ++ [32]) s1 e1 G (by simp only [List.length_append, List.length_cons, List.length_nil]; omega)
  obtain ⟨s3, e3, q3⟩ := addG (N ++ [32] ++ G) s2 e2 [32, 115, 105, 122, 101, 32] (by simp only [List.length_append, List.length_cons, List.length_nil]; omega)
  obtain ⟨s4, e4, q4⟩ := addG (N ++ [32] ++ G ++ [32, 115, 105, 122, 101, 32]) s3 e3 S (by simp only [List.length_append, List.length_cons, List.length_nil]; omega)
  obtain ⟨s5, e5, q5⟩ := addG (N ++ [32] ++ G ++ [32, 115, 105, 122, 101, 32] ++ S) s4 e4 [32, 108, 111, 110, 103, 101, 115, 116, 32] (by simp only [List.length_append, List.length_cons, List.length_nil]; omega)
  obtain ⟨s6, e6, q6⟩ := addG (N ++ [32] ++ G ++ [32, 115, 105, 122, 101, 32] ++ S ++ [32, 108, 111, 110, 103, 101, 115, 116, 32]) s5 e5 L (by simp only [List.length_append, List.length_cons, List.length_nil]; omega)
  obtain ⟨s7, e7, q7⟩ := addG (N ++ [32] ++ G ++ [32, 115, 105, 122, 101, 32] ++ S ++ [32, 108, 111, 110, 103, 101, 115, 116, 32] ++ L) s6 e6 [32, 99, 111, 120, 101, 116, 101, 114, 32] (by simp only [List.length_append, List.length_cons, List.length_nil]; omega)
  obtain ⟨s8, e8, q8⟩ := addG (N ++ [32] ++ G ++ [32, 115, 105, 122, 101, 32] ++ S ++ [32, 108, 111, 110, 103, 101, 115, 116, 32] ++ L ++ [32, 99, 111, 120, 101, 116, 101, 114, 32]) s7 e7 X (by simp only [List.length_append, List.length_cons, List.length_nil]; omega)
  obtain ⟨s9, e9, q9⟩ := addG (N ++ [32] ++ G ++ [32, 115, 105, 122, 101, 32] ++ S ++ [32, 108, 111, 110, 103, 101, 115, 116, 32] ++ L ++ [32, 99, 111, 120, 101, 116, 101, 114, 32] ++ X) s8 e8 [32, 100, 101, 116, 101, 114, 109, 105, 110, 97, 110, 116, 32] (by simp only [List.length_append, List.length_cons, List.length_nil]; omega)
  obtain ⟨s10, e10, q10⟩ := addG (N ++ [32] ++ G ++ [32, 115, 105, 122, 101, 32] ++ S ++ [32, 108, 111, 110, 103, 101, 115, 116, 32] ++ L ++ [32, 99, 111, 120, 101, 116, 101, 114, 32] ++ X ++ [32, 100, 101, 116, 101, 114, 109, 105, 110, 97, 110, 116, 32]) s9 e9 D (by simp only [List.length_append, List.length_cons, List.length_nil]; omega)
  obtain ⟨s11, e11, q11⟩ := addG (N ++ [32] ++ G ++ [32, 115, 105, 122, 101, 32] ++ S ++ [32, 108, 111, 110, 103, 101, 115, 116, 32] ++ L ++ [32, 99, 111, 120, 101, 116, 101, 114, 32] ++ X ++ [32, 100, 101, 116, 101, 114, 109, 105, 110, 97, 110, 116, 32] ++ D) s10 e10 [32, 115, 121, 109, 109, 101, 116, 114, 105, 101, 115, 32] (by simp only [List.length_append, List.length_cons, List.length_nil]; omega)
  obtain ⟨s12, e12, q12⟩ := addG (N ++ [32] ++ G ++ [32, 115, 105, 122, 101, 32] ++ S ++ [32, 108, 111, 110, 103, 101, 115, 116, 32] ++ L ++ [32, 99, 111, 120, 101, 116, 101, 114, 32] ++ X ++ [32, 100, 101, 116, 101, 114, 109, 105, 110, 97, 110, 116, 32] ++ D ++ [32, 115, 121, 109, 109, 101, 116, 114, 105, 101, 115, 32]) s11 e11 Y (by simp only [List.length_append, List.length_cons, List.length_nil]; omega)
  have EE := Lib.hid e12
  clear e1 e2 e3 e4 e5 e6 e7 e8 e9 e10 e11 e12
  clear lN lG lD lY lS lL lX hl24 hx12
  go_enter Tryz.func6, Tryz.ntmps6
  go_wp2_with fail
  refine hcart.mono ?_
  rintro e w1 ⟨rfl, m1, rfl⟩
  have hB1 : Below w.heap.size w (w.drewN m1) := below_drewN' w m1
  generalize w.drewN m1 = w1 at *
  go_wp2_with fail
  refine (HN.out w1 hB1).mono ?_
  rintro e w2 ⟨rfl, hb2⟩
  have hB2 := hB1.trans (hb2.mono hB1.size)
  go_wp2_with fail
  refine (HG.out w2 hB2).mono ?_
  rintro e w3 ⟨rfl, hb3⟩
  have hB3 := hB2.trans (hb3.mono hB2.size)
  go_wp2_with fail
  refine (HF.out w3 hB3).mono ?_
  rintro e w4 ⟨rfl, hb4⟩
  have hB4 := hB3.trans (hb4.mono hB3.size)
  go_wp2_with fail
  refine (HL.out w4 hB4).mono ?_
  rintro e w5 ⟨g5, c5, rfl, ho5, hb5⟩
  have hB5 := hB4.trans (hb5.mono hB4.size)
  go_wp2_with fail
  refine (HS.out w5 hB5).mono ?_
  rintro e w6 ⟨rfl, hb6⟩
  have hB6 := hB5.trans (hb6.mono hB5.size)
  go_wp2_with fail
  refine (HIS.out w6).mono ?_
  rintro e w7 ⟨rfl, hb7⟩
  have hB7 := hB6.trans (hb7.mono hB6.size)
  go_wp2_with fail
  refine (HIL.out w7).mono ?_
  rintro e w8 ⟨rfl, hb8⟩
  have hB8 := hB7.trans (hb8.mono hB7.size)
  go_wp2_with fail
  refine (HX.out w8 hB8).mono ?_
  rintro e w9 ⟨rfl, hb9⟩
  have hB9 := hB8.trans (hb9.mono hB8.size)
  go_wp2_with fail
  refine (HIX.out w9).mono ?_
  rintro e w10 ⟨rfl, hb10⟩
  have hB10 := hB9.trans (hb10.mono hB9.size)
  go_wp2_with fail
  refine (HD.out w10 hB10).mono ?_
  rintro e w11 ⟨rfl, hb11⟩
  have hB11 := hB10.trans (hb11.mono hB10.size)
  go_wp2_with fail
  refine (HID.out w11).mono ?_
  rintro e w12 ⟨rfl, hb12⟩
  have hB12 := hB11.trans (hb12.mono hB11.size)
  go_wp2_with fail
  refine (HY.out w12 hB12).mono ?_
  rintro e w13 ⟨g13, c13, rs13, rfl, hrs13, hct13, hb13⟩
  have hB13 := hB12.trans (hb13.mono hB12.size)
  go_wp2_with fail
  refine (HIY.out w13).mono ?_
  rintro e w14 ⟨rfl, hb14⟩
  have hB14 := hB13.trans (hb14.mono hB13.size)
  go_wp2_with fail
  go_ret
  exact ⟨by rw [EE.out]; rfl, hB14⟩

set_option maxHeartbeats 2000000 in
theorem spec_GroupLine_inf (gc oc n cc : Nat) (c : List (List Int)) (w : World) (hn : c.length = n) (hC : IsC c) (hf : finB c = false) (hgc : gc < w.heap.size) (hr : Rows2 w gc oc c) :
    Calls Tryz.prog 6 #[(Value.slice (some ⟨gc, oc, none⟩) n cc)] w (Gives w (.string ⟨(groupL c).toArray⟩)) := by
  have hgl : groupL c = glIS (join (nameL c) [120]) (growL c) (weightL (witness c)) (itoa (det c.length c)) (itoa ((symO c).length : Int)) := by
    rw [← glI_eq]; unfold groupL; rw [if_pos hC, if_neg (by rw [hf]; decide)]
  rw [hgl]
  clear hgl
  have h4 := hC.2.1
  have hx : c.length ≤ 1048576 := by omega
  have hrl : ∀ j, j < c.length → (c.getD j []).length ≤ 1048576 := fun j hj => by have := hC.2.2.1 j hj; omega
  have hdn : det n c = det c.length c := by rw [hn]
  obtain ⟨hd1, hd2⟩ := det_b hC
  have hy := symO_len hC
  have hwd := wf_big (x := det c.length c) (by omega) (by omega)
  have hwy := wf_big (x := ((symO c).length : Int)) (by omega) (by omega)
  have lN : (join (nameL c) [120]).length ≤ 16 := by
    have h3 := nameL_len hC
    have := join_len 120 (nameL c) (fun x hx => (names_noX _ (h3.2.2 x hx)).2.1)
    omega
  have lG := growL_len c
  have lD := itoa_b (x := det c.length c) (by omega) (by omega)
  have lY := itoa_b (x := ((symO c).length : Int)) (by omega) (by omega)
  have hcart := spec_IsCartan gc oc n cc c w hn (by omega) (fun j hj => by have := hC.2.2.1 j hj; omega) hr
  rw [decide_eq_true hC] at hcart
  have HN := Lib.hid (fun W (hb : Below w.heap.size w W) => spec_NameOf_ok gc oc n cc c W hn hC (Nat.lt_of_lt_of_le hgc hb.size) (hr.below hb hgc))
  have HG := Lib.hid (fun W (hb : Below w.heap.size w W) => by
    have := spec_GrowthKind_any gc oc n cc c W hn hx hrl (Nat.lt_of_lt_of_le hgc hb.size) (hr.below hb hgc)
    rwa [growS_L hC] at this)
  have HF := Lib.hid (fun W (hb : Below w.heap.size w W) => by
    have := spec_IsFinite_any gc oc n cc c W hn hx hrl (Nat.lt_of_lt_of_le hgc hb.size) (hr.below hb hgc)
    rwa [hf] at this)
  have HD := Lib.hid (fun W (hb : Below w.heap.size w W) => by
    have := spec_DeterminantOf_ok gc oc n cc c W hn hC (Nat.lt_of_lt_of_le hgc hb.size) (hr.below hb hgc)
    rwa [hdn] at this)
  have HY := Lib.hid (fun W (hb : Below w.heap.size w W) => spec_SymmetriesOf_ok gc oc n cc c W hn hC (Nat.lt_of_lt_of_le hgc hb.size) (hr.below hb hgc))
  have HID := Lib.hid (fun W => spec_FormatInt_any (det c.length c) W hwd)
  have HIY := Lib.hid (fun W => spec_FormatInt_any ((symO c).length : Int) W hwy)
  have hyl : ((symO c).map intsOf).length = (symO c).length := List.length_map _
  have HYL := Lib.hid hyl
  have hW4 := witness_len c
  have hW64 := witness_i64 c
  have lW : (weightL (witness c)).length ≤ 100 := by have := weightL_len hW64; omega
  have HW := Lib.hid (fun W (hb : Below w.heap.size w W) => spec_WitnessOf_any gc oc n cc c W hn hx hrl (Nat.lt_of_lt_of_le hgc hb.size) (hr.below hb hgc))
  have HIW := Lib.hid (fun W B g2 c2 (h : Own W B g2 c2 (witness c)) => spec_FormatWeight_any g2 0 (witness c).length c2 (witness c) W rfl (by omega) hW64 h.lt h.cells)
  clear hr hx hrl hdn hd1 hd2 hy hwd hwy hf hC hn hyl hW4 hW64
  generalize join (nameL c) [120] = N at *
  generalize growL c = G at *
  generalize itoa (det c.length c) = D at *
  generalize itoa ((symO c).length : Int) = Y at *
  generalize weightL (witness c) = Wt at *
  obtain ⟨s1, e1, q1⟩ := addG (N) N.toArray rfl [32] (by simp only [List.length_append, List.length_cons, List.length_nil]; omega)
  obtain ⟨s2, e2, q2⟩ := addG (N ++ [32]) s1 e1 G (by simp only [List.length_append, List.length_cons, List.length_nil]; omega)
  obtain ⟨s3, e3, q3⟩ := addG (N ++ [32] ++ G) s2 e2 [32, 119, 105, 116, 110, 101, 115, 115, 32] (by simp only [List.length_append, List.length_cons, List.length_nil]; omega)
  obtain ⟨s4, e4, q4⟩ := addG (N ++ [32] ++ G ++ [32, 119, 105, 116, 110, 101, 115, 115, 32]) s3 e3 Wt (by simp only [List.length_append, List.length_cons, List.length_nil]; omega)
  obtain ⟨s5, e5, q5⟩ := addG (N ++ [32] ++ G ++ [32, 119, 105, 116, 110, 101, 115, 115, 32] ++ Wt) s4 e4 [32, 100, 101, 116, 101, 114, 109, 105, 110, 97, 110, 116, 32] (by simp only [List.length_append, List.length_cons, List.length_nil]; omega)
  obtain ⟨s6, e6, q6⟩ := addG (N ++ [32] ++ G ++ [32, 119, 105, 116, 110, 101, 115, 115, 32] ++ Wt ++ [32, 100, 101, 116, 101, 114, 109, 105, 110, 97, 110, 116, 32]) s5 e5 D (by simp only [List.length_append, List.length_cons, List.length_nil]; omega)
  obtain ⟨s7, e7, q7⟩ := addG (N ++ [32] ++ G ++ [32, 119, 105, 116, 110, 101, 115, 115, 32] ++ Wt ++ [32, 100, 101, 116, 101, 114, 109, 105, 110, 97, 110, 116, 32] ++ D) s6 e6 [32, 115, 121, 109, 109, 101, 116, 114, 105, 101, 115, 32] (by simp only [List.length_append, List.length_cons, List.length_nil]; omega)
  obtain ⟨s8, e8, q8⟩ := addG (N ++ [32] ++ G ++ [32, 119, 105, 116, 110, 101, 115, 115, 32] ++ Wt ++ [32, 100, 101, 116, 101, 114, 109, 105, 110, 97, 110, 116, 32] ++ D ++ [32, 115, 121, 109, 109, 101, 116, 114, 105, 101, 115, 32]) s7 e7 Y (by simp only [List.length_append, List.length_cons, List.length_nil]; omega)
  have EE := Lib.hid e8
  clear e1 e2 e3 e4 e5 e6 e7 e8
  clear lN lG lD lY lW
  go_enter Tryz.func6, Tryz.ntmps6
  go_wp2_with fail
  refine hcart.mono ?_
  rintro e w1 ⟨rfl, m1, rfl⟩
  have hB1 : Below w.heap.size w (w.drewN m1) := below_drewN' w m1
  generalize w.drewN m1 = w1 at *
  go_wp2_with fail
  refine (HN.out w1 hB1).mono ?_
  rintro e w2 ⟨rfl, hb2⟩
  have hB2 := hB1.trans (hb2.mono hB1.size)
  go_wp2_with fail
  refine (HG.out w2 hB2).mono ?_
  rintro e w3 ⟨rfl, hb3⟩
  have hB3 := hB2.trans (hb3.mono hB2.size)
  go_wp2_with fail
  refine (HF.out w3 hB3).mono ?_
  rintro e w4 ⟨rfl, hb4⟩
  have hB4 := hB3.trans (hb4.mono hB3.size)
  go_wp2_with fail
  refine (HW.out w4 hB4).mono ?_
  rintro e w5 ⟨g5, c5, rfl, ho5, hb5⟩
  have hB5 := hB4.trans (hb5.mono hB4.size)
  go_wp2_with fail
  refine (HIW.out w5 _ g5 c5 ho5).mono ?_
  rintro e w6 ⟨rfl, hb6⟩
  have hB6 := hB5.trans (hb6.mono hB5.size)
  go_wp2_with fail
  refine (HD.out w6 hB6).mono ?_
  rintro e w7 ⟨rfl, hb7⟩
  have hB7 := hB6.trans (hb7.mono hB6.size)
  go_wp2_with fail
  refine (HID.out w7).mono ?_
  rintro e w8 ⟨rfl, hb8⟩
  have hB8 := hB7.trans (hb8.mono hB7.size)
  go_wp2_with fail
  refine (HY.out w8 hB8).mono ?_
  rintro e w9 ⟨g9, c9, rs9, rfl, hrs9, hct9, hb9⟩
  have hB9 := hB8.trans (hb9.mono hB8.size)
  go_wp2_with fail
  refine (HIY.out w9).mono ?_
  rintro e w10 ⟨rfl, hb10⟩
  have hB10 := hB9.trans (hb10.mono hB9.size)
  go_wp2_with fail
  go_ret
  exact ⟨by rw [EE.out]; rfl, hB10⟩
end Go.Proofs.YtnpechcnmchneaaGreatDoor
namespace Go.Proofs.YtnpechcnmchneaaGreatDoor
set_option maxRecDepth 100000
open Go.RowKit
open Go.Lib (join decDigits itoa)
set_option maxRecDepth 100000

def strsI (l : List Int) : List ByteArray := l.map fun x => ⟨(itoa x).toArray⟩
theorem strsI_length (l : List Int) : (strsI l).length = l.length := by simp [strsI]
theorem strsI_take {l : List Int} {k : Nat} (hk : k < l.length) : strsI (l.take (k + 1)) = strsI (l.take k) ++ [⟨(itoa (l.getD k 0)).toArray⟩] := by
  unfold strsI
  rw [List.take_succ_eq_append_getElem hk, List.map_append]
  congr 1
  simp [List.getD, hk]
theorem strsI_data (l : List Int) : (strsI l).map (·.data.toList) = itoas l := by simp [strsI, itoas]

set_option maxHeartbeats 1000000 in
theorem impl_joinInts_any (g o n cp : Nat) (l : List Int) (w : World) (hn : l.length = n) (hl : l.length ≤ 1048576) (h64 : I64s l) (hg : g < w.heap.size) (hc : Cells w g o l) (ht : Tab w) :
    Calls Tryz.prog 84 #[(Value.slice (some ⟨g, o, none⟩) n cp), .string ⟨#[44]⟩] w (Gives w (.string ⟨(weightL l).toArray⟩)) := by
  subst hn
  have H64 := Lib.hid h64; have Ht := Lib.hid ht
  have Hsep := Lib.hid (show (join (itoas l) [44]).length ≤ 140737488355328 from by have := weightL_len h64; unfold weightL at this; omega)
  clear h64 ht
  generalize hS : (⟨(weightL l).toArray⟩ : ByteArray) = S
  have HS : Hid ((⟨(join (itoas l) [44]).toArray⟩ : ByteArray) = S) := Lib.hid hS
  clear hS
  go_enter Tryz.func84, Tryz.ntmps84
  go_wp2
  go_loopw [5, 11] (fun ov kv wr => ∃ (k g2 c2 : Nat), k ≤ l.length ∧ kv = .int .i64 k ∧ ov = (Value.slice (some ⟨g2, 0, none⟩) k c2) ∧ OwnStrs wr w.heap.size g2 c2 (strsI (l.take k)) ∧ Below w.heap.size w wr) (fun _ kv _ => l.length - (intOf kv).toNat)
  case atStart => exact ⟨0, _, 0, Nat.zero_le _, rfl, rfl, OwnStrs.empty (Nat.le_refl _), (Below.refl _ _).alloc (Nat.le_refl _) _⟩
  case round =>
    obtain ⟨k, g2, c2, hk, rfl, rfl, ho, hb⟩ := hrel
    by_cases hlt : k < l.length
    · have q1 := (hb.cell (p := ⟨g, o + k, none⟩) hg).trans (hc k hlt)
      have hts := strsI_take hlt
      have hcall := impl_FormatInt_any (l.getD k 0) (H64.out.at hlt) wr (Ht.out.below hb)
      have htl : (strsI (l.take k)).length = k := by rw [strsI_length, List.length_take]; omega
      generalize (⟨(itoa (l.getD k 0)).toArray⟩ : ByteArray) = s at *
      generalize l.getD k 0 = i at *
      have Hcall := Lib.hid hcall; have Hts := Lib.hid hts; have Htl := Lib.hid htl
      clear hcall hts htl
      go_wp2_with fail
      refine Hcall.out.mono ?_
      rintro e w1 ⟨rfl, hb1⟩
      have ho1 : OwnStrs w1 w.heap.size g2 c2 (strsI (l.take k)) := OwnK.below ho hb1 (OwnK.lt ho)
      have hb1' := hb.trans (hb1.mono hb.size)
      clear ho hb hb1
      go_wp2_with (at_builtin; refine wpList_append_str rfl _ _ rfl w.heap.size g2 c2 k w1.heap.size (strsI (l.take k)) s w1 _ Htl.out rfl rfl ho1 rfl rfl (by omega) ?_)
      intro g3 c3 w3 ho3 hg3 hor3
      have hb3 : Below w.heap.size w w3 := hb1'.grown hg3 hb1'.size (by intro t ht; cases ht; exact OwnK.base ho1)
      rw [← Hts.out] at ho3
      clear ho1 hg3
      go_wp2_with fail
      go_roundw
      case rel => exact ⟨k + 1, g3, c3, by omega, by go_num, rfl, ho3, hb3⟩
      case measure => simp [intOf]; omega
    · obtain rfl : k = l.length := by omega
      rw [List.take_length] at ho
      have hj := Any.strings_Join Tryz.lays156 Tryz.Builder_Extra_156 g2 0 c2 (strsI l) ⟨#[44]⟩ wr ho.cell (OwnK.lt ho) (by rw [strsI_length]; omega) ho.capLe (by rw [strsI_data]; exact Hsep.out)
      change Calls Tryz.prog 75 _ _ _ at hj
      have e44 : (⟨#[44]⟩ : ByteArray).data.toList = [44] := rfl
      rw [strsI_data, strsI_length, e44, HS.out] at hj
      have Hj := Lib.hid hj
      clear hj ho
      go_wp2_with fail
      refine Hj.out.mono ?_
      rintro e w4 ⟨rfl, hb4⟩
      have hB := hb.trans (hb4.mono hb.size)
      go_wp2_with fail
      go_ret
      exact ⟨rfl, hB⟩
theorem impl_FormatWeight_any (g o n cp : Nat) (l : List Int) (w : World) (hn : l.length = n) (hl : l.length ≤ 1048576) (h64 : I64s l) (hg : g < w.heap.size) (hc : Cells w g o l) (ht : Tab w) :
    Calls Tryz.prog 34 #[(Value.slice (some ⟨g, o, none⟩) n cp)] w (Gives w (.string ⟨(weightL l).toArray⟩)) := by
  have hcall := impl_joinInts_any g o n cp l w hn hl h64 hg hc ht
  have Hcall := Lib.hid hcall
  generalize (⟨(weightL l).toArray⟩ : ByteArray) = s at *
  clear hcall hc ht
  go_enter Tryz.func34, Tryz.ntmps34
  go_wp2_with fail
  refine Hcall.out.mono ?_
  rintro e w1 ⟨rfl, hb1⟩
  go_wp2_with fail
  go_ret
  exact ⟨rfl, hb1⟩

def strsW (l : List (List Int)) : List ByteArray := l.map fun r => ⟨(weightL r).toArray⟩
theorem strsW_length (l : List (List Int)) : (strsW l).length = l.length := by simp [strsW]
theorem strsW_take {l : List (List Int)} {k : Nat} (hk : k < l.length) : strsW (l.take (k + 1)) = strsW (l.take k) ++ [⟨(weightL (l.getD k [])).toArray⟩] := by
  unfold strsW
  rw [List.take_succ_eq_append_getElem hk, List.map_append]
  congr 1
  simp [List.getD, hk]
theorem strsW_data (l : List (List Int)) : (strsW l).map (·.data.toList) = l.map weightL := by simp [strsW]

/-! ### bytes of the call's own -/
end Go.Proofs.YtnpechcnmchneaaGreatDoor
