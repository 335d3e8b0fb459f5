/- GroupLine of the program: contract. Printed by wip/mkgli.py. GroupLine of both at any matrix: contracts. -/
import Derived.Test.YtnpechcnmchneaaGreatDoorG48
import Derived.Test.YtnpechcnmchneaaGreatDoorG49
import Derived.Shelf.Vars
namespace Go.Proofs.YtnpechcnmchneaaGreatDoor
set_option maxRecDepth 100000
open Go.RowKit Game
open Go.Lib (join itoa)

section
variable {ops : Array Oper} {rest : List Oper} {o : Oper} {a : Act} {Q : Exit → Act → World → Prop}
/-- 'append(words, a, b, ..)' of strings just laid -/
theorem wpList_append_SN (hgd : o.guard = none) (s x : Operand)
    (ho : o.op = .call { callee := .builtin .append, args := #[s, x], argTypes := #[41, 41] })
    (B g cap n H k : Nat) (L Z : List (List UInt8)) (w W : World) (hn : L.length = n) (hk : Z.length = k) (hk2 : k ≤ 1000) (hW : W = w.alloc (.cells ((strs Z).map Value.string).toArray 9)) (hH : w.heap.size = H) (hown : OwnStrs w B g cap (strs L))
    (hs : a.eval s = (Value.slice (some ⟨g, 0, none⟩) n cap)) (hx : a.eval x = (Value.slice (some ⟨H, 0, none⟩) k k)) (hlen : n + k ≤ 1048576)
    (h : ∀ g' cap' w', OwnStrs w' B g' cap' (strs (L ++ Z)) → w.grownBy w' (some g) → wpList Tryz.prog ops Q rest (a.put o.dst (Value.slice (some ⟨g', 0, none⟩) (n + k) cap')) w') :
    wpList Tryz.prog ops Q (o :: rest) a W := by
  subst hn; subst hk; subst hW; subst hH
  have hlz : (strs Z).length = Z.length := by simp [strs]
  have hls : (strs L).length = L.length := by simp [strs]
  have hnew : OwnStrs (w.alloc (.cells ((strs Z).map Value.string).toArray 9)) w.heap.size w.heap.size Z.length (strs Z) := by
    have := World.ownsRow_lit (e := 9) (size := 1) w ((strs Z).map Value.string).toArray Z.length (base := w.heap.size) (Nat.le_refl _) (by unfold maxLen; omega) (by simp [strs])
    unfold OwnStrs
    rw [hlz]
    exact this
  refine wpList_append_K infoStr Tryz.underlying41 rfl (by decide) (by decide) hgd s x ho B g cap L.length ((strs L).map Value.string) (by rw [← hls]; exact OwnK.alloc hown _) w.heap.size 0 Z.length Z.length ((strs Z).map Value.string) (by simp [strs]) ?_ ?_ hs hx hlen ?_
  · intro j u hu
    have hj : j < (strs Z).length := by have := (List.getElem?_eq_some_iff.1 hu).1; simpa using this
    have h := hnew.cell j (strs Z)[j] (by simp [hj])
    rw [h, ← hu]
    simp [hj]
  · intro u hu
    obtain ⟨b, -, rfl⟩ := List.mem_map.1 hu
    rfl
  · intro g' cap' w' h2 h3 h4
    refine h g' cap' w' ?_ ⟨h3.os, h3.tape, h3.output, Nat.le_trans (by simp) h3.size, fun k hk hne => (h3.block k (by simp; omega) hne).trans (Below.heap_alloc _ _ _ hk)⟩
    have e : strs (L ++ Z) = strs L ++ strs Z := by simp [strs]
    unfold OwnStrs
    rw [e, List.map_append, List.length_append, hls, hlz]
    exact h2
end
theorem own_two (w : World) (B : Nat) (A C : List UInt8) (hB : B ≤ w.heap.size) : OwnStrs (w.alloc (.cells #[.string ⟨A.toArray⟩, .string ⟨C.toArray⟩] 9)) B w.heap.size 2 (strs [A, C]) :=
  World.ownsRow_lit w #[.string ⟨A.toArray⟩, .string ⟨C.toArray⟩] 2 hB (by decide) rfl

set_option maxHeartbeats 400000 in
theorem impl_LongestElement_ok (gc oc n cc : Nat) (long : List Int) (w : World) (hf : Calls Tryz.prog 76 #[(Value.slice (some ⟨gc, oc, none⟩) n cc)] w (Gives w (.bool true))) (hl : ∀ W, Below w.heap.size w W → Calls Tryz.prog 78 #[(Value.slice (some ⟨gc, oc, none⟩) n cc)] W (GotInts W long)) :
    Calls Tryz.prog 30 #[(Value.slice (some ⟨gc, oc, none⟩) n cc)] w (GotIntsB w long true) := by
  have Hf := Lib.hid hf
  have Hl := Lib.hid hl
  clear hf hl
  go_enter Tryz.func30, Tryz.ntmps30
  go_wp2_with fail
  refine Hf.out.mono ?_
  rintro e w1 ⟨rfl, hb1⟩
  go_wp2_with fail
  refine (Hl.out w1 hb1).mono ?_
  rintro e w2 ⟨g2, c2, rfl, ho2, hb2⟩
  go_wp2_with fail
  go_ret2
  exact ⟨g2, c2, rfl, ho2.mono hb1.size, hb1.trans (hb2.mono hb1.size)⟩
set_option maxHeartbeats 400000 in
theorem impl_LongestElement_inf (gc oc n cc : Nat) (w : World) (hf : Calls Tryz.prog 76 #[(Value.slice (some ⟨gc, oc, none⟩) n cc)] w (Gives w (.bool false))) :
    Calls Tryz.prog 30 #[(Value.slice (some ⟨gc, oc, none⟩) n cc)] w (GotIntsB w [] false) := by
  have Hf := Lib.hid hf
  clear hf
  go_enter Tryz.func30, Tryz.ntmps30
  go_wp2_with fail
  refine Hf.out.mono ?_
  rintro e w1 ⟨rfl, hb1⟩
  go_wp2_with fail
  go_ret2
  exact ⟨_, 0, rfl, Own.empty hb1.size, hb1.alloc hb1.size _⟩

set_option maxHeartbeats 4000000 in
theorem impl_GroupLine_fin (gc oc n cc : Nat) (c : List (List Int)) (w : World) (hn : c.length = n) (hC : IsC c) (hf : finB c = true) (hcap : n ≤ cc) (hgc : gc < w.heap.size) (hr : Rows2 w gc oc c) (ht : Tab w) (hm : MaxL w) :
    Calls Tryz.prog 8 #[(Value.slice (some ⟨gc, oc, none⟩) n cc)] w (Gives w (.string ⟨(groupL c).toArray⟩)) := by
  have hgl : groupL c = join (glF (join (nameL c) [120]) (growL c) (itoa (szO c)) (itoa ((longN c).length : Int)) (itoa (coxN c : Int)) (itoa (det c.length c)) (itoa ((symO c).length : Int))) [32] := by
    unfold groupL; rw [if_pos hC, if_pos hf]
  rw [hgl]
  clear hgl
  have h4 := hC.2.1
  have hx : c.length ≤ 1048576 := by omega
  have hrl : ∀ j, j < c.length → (c.getD j []).length ≤ 1048576 := fun j hj => by have := hC.2.2.1 j hj; omega
  have hdn : det n c = det c.length c := by rw [hn]
  obtain ⟨hd1, hd2⟩ := det_b hC
  have hy := symO_len hC
  have hwd := wf_big (x := det c.length c) (by omega) (by omega)
  have hwy := wf_big (x := ((symO c).length : Int)) (by omega) (by omega)
  have lN : (join (nameL c) [120]).length ≤ 16 := by
    have h3 := nameL_len hC
    have := join_len 120 (nameL c) (fun x hx => (names_noX _ (h3.2.2 x hx)).2.1)
    omega
  have lG := growL_len c
  have lD := itoa_b (x := det c.length c) (by omega) (by omega)
  have lY := itoa_b (x := ((symO c).length : Int)) (by omega) (by omega)
  have hcart := impl_IsCartan gc oc n cc c w hn (by omega) (fun j hj => by have := hC.2.2.1 j hj; omega) hr
  rw [decide_eq_true hC] at hcart
  have HN := Lib.hid (fun W (hb : Below w.heap.size w W) => impl_NameOf_ok gc oc n cc c W hn hC (Nat.lt_of_lt_of_le hgc hb.size) (hr.below hb hgc) (hm.below hb))
  have HG := Lib.hid (fun W (hb : Below w.heap.size w W) => by
    have := impl_GrowthKind_any gc oc n cc c W hn hx hrl (Nat.lt_of_lt_of_le hgc hb.size) (hr.below hb hgc)
    rwa [growS_L hC] at this)
  have HF := fun W (hb : Below w.heap.size w W) => by
    have := impl_IsFinite_any gc oc n cc c W hn hx hrl (Nat.lt_of_lt_of_le hgc hb.size) (hr.below hb hgc)
    rwa [hf] at this
  have HD := Lib.hid (fun W (hb : Below w.heap.size w W) => by
    have := impl_DeterminantOf_ok gc oc n cc c W hn hC hcap (Nat.lt_of_lt_of_le hgc hb.size) (hr.below hb hgc)
    rwa [hdn] at this)
  have HY := Lib.hid (fun W (hb : Below w.heap.size w W) => impl_SymmetriesOf_ok gc oc n cc c W hn hC (Nat.lt_of_lt_of_le hgc hb.size) (hr.below hb hgc))
  have HID := Lib.hid (fun W (hT : Tab W) => impl_FormatInt_any (det c.length c) hwd W hT)
  have HIY := Lib.hid (fun W (hT : Tab W) => impl_FormatInt_any ((symO c).length : Int) hwy W hT)
  have Ht := Lib.hid ht
  have H2 : Hid (∀ W : World, w.heap.size ≤ W.heap.size → OwnStrs (W.alloc (.cells #[.string ⟨(join (nameL c) [120]).toArray⟩, .string ⟨(growL c).toArray⟩] 9)) w.heap.size W.heap.size 2 (strs [join (nameL c) [120], growL c])) := fun W hW => own_two W w.heap.size _ _ hW
  obtain ⟨hlong, hl24⟩ := longN_ok hC hf
  obtain ⟨hs1, hs2⟩ := szO_bound c
  have hx12 := (cox_ok hC hf).2.1
  have hws := wf_big (x := szO c) (by omega) (by omega)
  have hwl := wf_big (x := ((longN c).length : Int)) (by omega) (by omega)
  have hwx := wf_big (x := (coxN c : Int)) (by omega) (by omega)
  have lS := itoa_b (x := szO c) (by omega) (by omega)
  have lL := itoa_b (x := ((longN c).length : Int)) (by omega) (by omega)
  have lX := itoa_b (x := (coxN c : Int)) (by omega) (by omega)
  have HL := Lib.hid (fun W (hb : Below w.heap.size w W) => impl_LongestElement_ok gc oc n cc (longN c) W (HF W hb) (fun W2 hb2 => impl_longestElement_any gc oc n cc c (longN c) W2 hn hC hlong (Nat.lt_of_lt_of_le hgc (hb.trans (hb2.mono hb.size)).size) (hr.below (hb.trans (hb2.mono hb.size)) hgc)))
  have HS := Lib.hid (fun W (hb : Below w.heap.size w W) => impl_SizeOf_any gc oc n cc c W hn hx hrl (Nat.lt_of_lt_of_le hgc hb.size) (hr.below hb hgc) (hm.below hb))
  have HX := Lib.hid (fun W (hb : Below w.heap.size w W) => impl_CoxeterNumber_ok gc oc n cc c W hn hf (Nat.lt_of_lt_of_le hgc hb.size) (hr.below hb hgc))
  have HIS := Lib.hid (fun W (hT : Tab W) => impl_FormatInt_any (szO c) hws W hT)
  have HIL := Lib.hid (fun W (hT : Tab W) => impl_FormatInt_any ((longN c).length : Int) hwl W hT)
  have HIX := Lib.hid (fun W (hT : Tab W) => impl_FormatInt_any (coxN c : Int) hwx W hT)
  clear HF hlong hs1 hs2 hws hwl hwx hr hx hrl hdn hd1 hd2 hy hwd hwy hf hC hn ht hm hcap
  generalize join (nameL c) [120] = N at *
  generalize growL c = G at *
  generalize itoa (det c.length c) = D at *
  generalize itoa ((symO c).length : Int) = Y at *
  generalize itoa (szO c) = S at *
  generalize itoa ((longN c).length : Int) = L at *
  generalize itoa (coxN c : Int) = X at *
  have HJ : Hid ((join (glF N G S L X D Y) [32]).length ≤ 140737488355328) := Lib.hid (by rw [glF_eq]; unfold glFS; simp only [List.length_append, List.length_cons, List.length_nil]; omega)
  have HJn : Hid (∀ W B2 g2 cap, OwnStrs W B2 g2 cap (strs (glF N G S L X D Y)) → Calls Tryz.prog 36 #[(Value.slice (some ⟨g2, 0, none⟩) 12 cap)] W (Gives W (.string ⟨(join (glF N G S L X D Y) [32]).toArray⟩))) := Lib.hid fun W B2 g2 cap ho => impl_line_any ho rfl (by omega) HJ.out
  clear lN lG lD lY lS lL lX hl24 hx12
  go_enter Tryz.func8, Tryz.ntmps8
  go_wp2_with fail
  refine hcart.mono ?_
  rintro e w1 ⟨rfl, m1, rfl⟩
  have hB1 : Below w.heap.size w (w.drewN m1) := below_drewN' w m1
  generalize w.drewN m1 = w1 at *
  go_wp2_with fail
  refine (HN.out w1 hB1).mono ?_
  rintro e w2 ⟨rfl, hb2⟩
  have hB2 := hB1.trans (hb2.mono hB1.size)
  go_wp2_with fail
  refine (HG.out w2 hB2).mono ?_
  rintro e w3 ⟨rfl, hb3⟩
  have hB3 := hB2.trans (hb3.mono hB2.size)
  have hS3 := H2.out w3 hB3.size
  have hX3 := hB3.alloc hB3.size (.cells #[.string ⟨N.toArray⟩, .string ⟨G.toArray⟩] 9)
  go_wp2_with fail
  refine (HL.out _ hX3).mono ?_
  rintro e w4 ⟨g4, c4, rfl, ho4, hb4⟩
  have hB4 := hX3.trans (hb4.mono hX3.size)
  have hS4 := OwnK.below hS3 hb4 (OwnK.lt hS3)
  clear hS3 hX3
  go_wp2_with fail
  refine (HS.out w4 hB4).mono ?_
  rintro e w5 ⟨rfl, hb5⟩
  have hB5 := hB4.trans (hb5.mono hB4.size)
  have hS5 := OwnK.below hS4 hb5 (OwnK.lt hS4)
  go_wp2_with fail
  refine (HIS.out w5 (Ht.out.below hB5)).mono ?_
  rintro e w6 ⟨rfl, hb6⟩
  have hB6 := hB5.trans (hb6.mono hB5.size)
  have hS6 := OwnK.below hS5 hb6 (OwnK.lt hS5)
  go_wp2_with fail
  refine (HIL.out w6 (Ht.out.below hB6)).mono ?_
  rintro e w7 ⟨rfl, hb7⟩
  have hB7 := hB6.trans (hb7.mono hB6.size)
  have hS7 := OwnK.below hS6 hb7 (OwnK.lt hS6)
  go_wp2_with fail
  refine (HX.out w7 hB7).mono ?_
  rintro e w8 ⟨rfl, hb8⟩
  have hB8 := hB7.trans (hb8.mono hB7.size)
  have hS8 := OwnK.below hS7 hb8 (OwnK.lt hS7)
  go_wp2_with fail
  refine (HIX.out w8 (Ht.out.below hB8)).mono ?_
  rintro e w9 ⟨rfl, hb9⟩
  have hB9 := hB8.trans (hb9.mono hB8.size)
  have hS9 := OwnK.below hS8 hb9 (OwnK.lt hS8)
  have hf9 := OwnK.base hS9
  go_wp2_with (at_builtin; refine wpList_append_SN rfl _ _ rfl w.heap.size w3.heap.size 2 2 w9.heap.size 6 [N, G] [[115, 105, 122, 101], S, [108, 111, 110, 103, 101, 115, 116], L, [99, 111, 120, 101, 116, 101, 114], X] w9 _ rfl rfl (by decide) rfl rfl hS9 rfl rfl (by omega) ?_)
  intro g10 c10 w10 hS10 hg10
  have hB10 : Below w.heap.size w w10 := hB9.grown hg10 hB9.size (by intro j hj; cases hj; exact hf9)
  go_wp2_with fail
  refine (HD.out w10 hB10).mono ?_
  rintro e w11 ⟨rfl, hb11⟩
  have hB11 := hB10.trans (hb11.mono hB10.size)
  have hS11 := OwnK.below hS10 hb11 (OwnK.lt hS10)
  go_wp2_with fail
  refine (HID.out w11 (Ht.out.below hB11)).mono ?_
  rintro e w12 ⟨rfl, hb12⟩
  have hB12 := hB11.trans (hb12.mono hB11.size)
  have hS12 := OwnK.below hS11 hb12 (OwnK.lt hS11)
  go_wp2_with fail
  refine (HY.out w12 hB12).mono ?_
  rintro e w13 ⟨g13, c13, rs13, rfl, hrs13, hct13, hb13⟩
  have hB13 := hB12.trans (hb13.mono hB12.size)
  have hS13 := OwnK.below hS12 hb13 (OwnK.lt hS12)
  go_wp2_with fail
  refine (HIY.out w13 (Ht.out.below hB13)).mono ?_
  rintro e w14 ⟨rfl, hb14⟩
  have hB14 := hB13.trans (hb14.mono hB13.size)
  have hS14 := OwnK.below hS13 hb14 (OwnK.lt hS13)
  have hf14 := OwnK.base hS14
  go_wp2_with (at_builtin; refine wpList_append_SN rfl _ _ rfl w.heap.size g10 c10 8 w14.heap.size 4 ([N, G] ++ [[115, 105, 122, 101], S, [108, 111, 110, 103, 101, 115, 116], L, [99, 111, 120, 101, 116, 101, 114], X]) [[100, 101, 116, 101, 114, 109, 105, 110, 97, 110, 116], D, [115, 121, 109, 109, 101, 116, 114, 105, 101, 115], Y] w14 _ rfl rfl (by decide) rfl rfl hS14 rfl rfl (by omega) ?_)
  intro g15 c15 w15 hS15 hg15
  have hB15 : Below w.heap.size w w15 := hB14.grown hg15 hB14.size (by intro j hj; cases hj; exact hf14)
  go_wp2_with fail
  refine (HJn.out w15 _ g15 c15 hS15).mono ?_
  rintro e w16 ⟨rfl, hb16⟩
  have hB16 := hB15.trans (hb16.mono hB15.size)
  go_wp2_with fail
  go_ret
  exact ⟨rfl, hB16⟩

set_option maxHeartbeats 4000000 in
theorem impl_GroupLine_inf (gc oc n cc : Nat) (c : List (List Int)) (w : World) (hn : c.length = n) (hC : IsC c) (hf : finB c = false) (hcap : n ≤ cc) (hgc : gc < w.heap.size) (hr : Rows2 w gc oc c) (ht : Tab w) (hm : MaxL w) :
    Calls Tryz.prog 8 #[(Value.slice (some ⟨gc, oc, none⟩) n cc)] w (Gives w (.string ⟨(groupL c).toArray⟩)) := by
  have hgl : groupL c = join (glI (join (nameL c) [120]) (growL c) (weightL (witness c)) (itoa (det c.length c)) (itoa ((symO c).length : Int))) [32] := by
    unfold groupL; rw [if_pos hC, if_neg (by rw [hf]; decide)]
  rw [hgl]
  clear hgl
  have h4 := hC.2.1
  have hx : c.length ≤ 1048576 := by omega
  have hrl : ∀ j, j < c.length → (c.getD j []).length ≤ 1048576 := fun j hj => by have := hC.2.2.1 j hj; omega
  have hdn : det n c = det c.length c := by rw [hn]
  obtain ⟨hd1, hd2⟩ := det_b hC
  have hy := symO_len hC
  have hwd := wf_big (x := det c.length c) (by omega) (by omega)
  have hwy := wf_big (x := ((symO c).length : Int)) (by omega) (by omega)
  have lN : (join (nameL c) [120]).length ≤ 16 := by
    have h3 := nameL_len hC
    have := join_len 120 (nameL c) (fun x hx => (names_noX _ (h3.2.2 x hx)).2.1)
    omega
  have lG := growL_len c
  have lD := itoa_b (x := det c.length c) (by omega) (by omega)
  have lY := itoa_b (x := ((symO c).length : Int)) (by omega) (by omega)
  have hcart := impl_IsCartan gc oc n cc c w hn (by omega) (fun j hj => by have := hC.2.2.1 j hj; omega) hr
  rw [decide_eq_true hC] at hcart
  have HN := Lib.hid (fun W (hb : Below w.heap.size w W) => impl_NameOf_ok gc oc n cc c W hn hC (Nat.lt_of_lt_of_le hgc hb.size) (hr.below hb hgc) (hm.below hb))
  have HG := Lib.hid (fun W (hb : Below w.heap.size w W) => by
    have := impl_GrowthKind_any gc oc n cc c W hn hx hrl (Nat.lt_of_lt_of_le hgc hb.size) (hr.below hb hgc)
    rwa [growS_L hC] at this)
  have HF := fun W (hb : Below w.heap.size w W) => by
    have := impl_IsFinite_any gc oc n cc c W hn hx hrl (Nat.lt_of_lt_of_le hgc hb.size) (hr.below hb hgc)
    rwa [hf] at this
  have HD := Lib.hid (fun W (hb : Below w.heap.size w W) => by
    have := impl_DeterminantOf_ok gc oc n cc c W hn hC hcap (Nat.lt_of_lt_of_le hgc hb.size) (hr.below hb hgc)
    rwa [hdn] at this)
  have HY := Lib.hid (fun W (hb : Below w.heap.size w W) => impl_SymmetriesOf_ok gc oc n cc c W hn hC (Nat.lt_of_lt_of_le hgc hb.size) (hr.below hb hgc))
  have HID := Lib.hid (fun W (hT : Tab W) => impl_FormatInt_any (det c.length c) hwd W hT)
  have HIY := Lib.hid (fun W (hT : Tab W) => impl_FormatInt_any ((symO c).length : Int) hwy W hT)
  have Ht := Lib.hid ht
  have H2 : Hid (∀ W : World, w.heap.size ≤ W.heap.size → OwnStrs (W.alloc (.cells #[.string ⟨(join (nameL c) [120]).toArray⟩, .string ⟨(growL c).toArray⟩] 9)) w.heap.size W.heap.size 2 (strs [join (nameL c) [120], growL c])) := fun W hW => own_two W w.heap.size _ _ hW
  have hW4 := witness_len c
  have hW64 := witness_i64 c
  have lW : (weightL (witness c)).length ≤ 100 := by have := weightL_len hW64; omega
  have HL := Lib.hid (fun W (hb : Below w.heap.size w W) => impl_LongestElement_inf gc oc n cc W (HF W hb))
  have HW := Lib.hid (fun W (hb : Below w.heap.size w W) => impl_WitnessOf_any gc oc n cc c W hn hx hrl (Nat.lt_of_lt_of_le hgc hb.size) (hr.below hb hgc))
  have HIW := Lib.hid (fun W B g2 c2 (hT : Tab W) (h : Own W B g2 c2 (witness c)) => impl_FormatWeight_any g2 0 (witness c).length c2 (witness c) W rfl (by omega) hW64 h.lt h.cells hT)
  clear HF hr hx hrl hdn hd1 hd2 hy hwd hwy hf hC hn hW4 hW64 ht hm hcap
  generalize join (nameL c) [120] = N at *
  generalize growL c = G at *
  generalize itoa (det c.length c) = D at *
  generalize itoa ((symO c).length : Int) = Y at *
  generalize weightL (witness c) = Wt at *
  have HJ : Hid ((join (glI N G Wt D Y) [32]).length ≤ 140737488355328) := Lib.hid (by rw [glI_eq]; unfold glIS; simp only [List.length_append, List.length_cons, List.length_nil]; omega)
  have HJn : Hid (∀ W B2 g2 cap, OwnStrs W B2 g2 cap (strs (glI N G Wt D Y)) → Calls Tryz.prog 36 #[(Value.slice (some ⟨g2, 0, none⟩) 8 cap)] W (Gives W (.string ⟨(join (glI N G Wt D Y) [32]).toArray⟩))) := Lib.hid fun W B2 g2 cap ho => impl_line_any ho rfl (by omega) HJ.out
  clear lN lG lD lY lW
  go_enter Tryz.func8, Tryz.ntmps8
  go_wp2_with fail
  refine hcart.mono ?_
  rintro e w1 ⟨rfl, m1, rfl⟩
  have hB1 : Below w.heap.size w (w.drewN m1) := below_drewN' w m1
  generalize w.drewN m1 = w1 at *
  go_wp2_with fail
  refine (HN.out w1 hB1).mono ?_
  rintro e w2 ⟨rfl, hb2⟩
  have hB2 := hB1.trans (hb2.mono hB1.size)
  go_wp2_with fail
  refine (HG.out w2 hB2).mono ?_
  rintro e w3 ⟨rfl, hb3⟩
  have hB3 := hB2.trans (hb3.mono hB2.size)
  have hS3 := H2.out w3 hB3.size
  have hX3 := hB3.alloc hB3.size (.cells #[.string ⟨N.toArray⟩, .string ⟨G.toArray⟩] 9)
  go_wp2_with fail
  refine (HL.out _ hX3).mono ?_
  rintro e w4 ⟨g4, c4, rfl, ho4, hb4⟩
  have hB4 := hX3.trans (hb4.mono hX3.size)
  have hS4 := OwnK.below hS3 hb4 (OwnK.lt hS3)
  clear hS3 hX3
  go_wp2_with fail
  refine (HW.out w4 hB4).mono ?_
  rintro e w5 ⟨g5, c5, rfl, ho5, hb5⟩
  have hB5 := hB4.trans (hb5.mono hB4.size)
  have hS5 := OwnK.below hS4 hb5 (OwnK.lt hS4)
  go_wp2_with fail
  refine (HIW.out w5 _ g5 c5 (Ht.out.below hB5) ho5).mono ?_
  rintro e w6 ⟨rfl, hb6⟩
  have hB6 := hB5.trans (hb6.mono hB5.size)
  have hS6 := OwnK.below hS5 hb6 (OwnK.lt hS5)
  have hf6 := OwnK.base hS6
  go_wp2_with (at_builtin; refine wpList_append_SN rfl _ _ rfl w.heap.size w3.heap.size 2 2 w6.heap.size 2 [N, G] [[119, 105, 116, 110, 101, 115, 115], Wt] w6 _ rfl rfl (by decide) rfl rfl hS6 rfl rfl (by omega) ?_)
  intro g7 c7 w7 hS7 hg7
  have hB7 : Below w.heap.size w w7 := hB6.grown hg7 hB6.size (by intro j hj; cases hj; exact hf6)
  go_wp2_with fail
  refine (HD.out w7 hB7).mono ?_
  rintro e w8 ⟨rfl, hb8⟩
  have hB8 := hB7.trans (hb8.mono hB7.size)
  have hS8 := OwnK.below hS7 hb8 (OwnK.lt hS7)
  go_wp2_with fail
  refine (HID.out w8 (Ht.out.below hB8)).mono ?_
  rintro e w9 ⟨rfl, hb9⟩
  have hB9 := hB8.trans (hb9.mono hB8.size)
  have hS9 := OwnK.below hS8 hb9 (OwnK.lt hS8)
  go_wp2_with fail
  refine (HY.out w9 hB9).mono ?_
  rintro e w10 ⟨g10, c10, rs10, rfl, hrs10, hct10, hb10⟩
  have hB10 := hB9.trans (hb10.mono hB9.size)
  have hS10 := OwnK.below hS9 hb10 (OwnK.lt hS9)
  go_wp2_with fail
  refine (HIY.out w10 (Ht.out.below hB10)).mono ?_
  rintro e w11 ⟨rfl, hb11⟩
  have hB11 := hB10.trans (hb11.mono hB10.size)
  have hS11 := OwnK.below hS10 hb11 (OwnK.lt hS10)
  have hf11 := OwnK.base hS11
  go_wp2_with (at_builtin; refine wpList_append_SN rfl _ _ rfl w.heap.size g7 c7 4 w11.heap.size 4 ([N, G] ++ [[119, 105, 116, 110, 101, 115, 115], Wt]) [[100, 101, 116, 101, 114, 109, 105, 110, 97, 110, 116], D, [115, 121, 109, 109, 101, 116, 114, 105, 101, 115], Y] w11 _ rfl rfl (by decide) rfl rfl hS11 rfl rfl (by omega) ?_)
  intro g12 c12 w12 hS12 hg12
  have hB12 : Below w.heap.size w w12 := hB11.grown hg12 hB11.size (by intro j hj; cases hj; exact hf11)
  go_wp2_with fail
  refine (HJn.out w12 _ g12 c12 hS12).mono ?_
  rintro e w13 ⟨rfl, hb13⟩
  have hB13 := hB12.trans (hb13.mono hB12.size)
  go_wp2_with fail
  go_ret
  exact ⟨rfl, hB13⟩
end Go.Proofs.YtnpechcnmchneaaGreatDoor
namespace Go.Proofs.YtnpechcnmchneaaGreatDoor
set_option maxRecDepth 100000
open Go.RowKit Game

set_option maxHeartbeats 400000 in
theorem spec_GroupLine_no (gc oc n cc : Nat) (c : List (List Int)) (w : World) (hn : c.length = n) (hC : ¬ IsC c) (hx : c.length ≤ 1048576) (hrl : ∀ j, j < c.length → (c.getD j []).length ≤ 1048576) (hr : Rows2 w gc oc c) :
    Calls Tryz.prog 6 #[(Value.slice (some ⟨gc, oc, none⟩) n cc)] w (Gives w (.string ⟨(groupL c).toArray⟩)) := by
  have hcart := spec_IsCartan gc oc n cc c w hn (by omega) (fun j hj => by have := hrl j hj; omega) hr
  rw [decide_eq_false hC] at hcart
  have hgl : groupL c = [] := if_neg hC
  rw [hgl]
  clear hgl hC hr hrl hx
  go_enter Tryz.func6, Tryz.ntmps6
  go_wp2_with fail
  refine hcart.mono ?_
  rintro e w1 ⟨rfl, m1, rfl⟩
  go_wp2_with fail
  go_ret
  exact ⟨rfl, below_drewN' w m1⟩
set_option maxHeartbeats 400000 in
theorem impl_GroupLine_no (gc oc n cc : Nat) (c : List (List Int)) (w : World) (hn : c.length = n) (hC : ¬ IsC c) (hx : c.length ≤ 1048576) (hrl : ∀ j, j < c.length → (c.getD j []).length ≤ 1048576) (hr : Rows2 w gc oc c) :
    Calls Tryz.prog 8 #[(Value.slice (some ⟨gc, oc, none⟩) n cc)] w (Gives w (.string ⟨(groupL c).toArray⟩)) := by
  have hcart := impl_IsCartan gc oc n cc c w hn (by omega) (fun j hj => by have := hrl j hj; omega) hr
  rw [decide_eq_false hC] at hcart
  have hgl : groupL c = [] := if_neg hC
  rw [hgl]
  clear hgl hC hr hrl hx
  go_enter Tryz.func8, Tryz.ntmps8
  go_wp2_with fail
  refine hcart.mono ?_
  rintro e w1 ⟨rfl, m1, rfl⟩
  go_wp2_with fail
  go_ret
  exact ⟨rfl, below_drewN' w m1⟩
theorem spec_GroupLine_any (gc oc n cc : Nat) (c : List (List Int)) (w : World) (hn : c.length = n) (hx : c.length ≤ 1048576) (hrl : ∀ j, j < c.length → (c.getD j []).length ≤ 1048576) (hgc : gc < w.heap.size) (hr : Rows2 w gc oc c) :
    Calls Tryz.prog 6 #[(Value.slice (some ⟨gc, oc, none⟩) n cc)] w (Gives w (.string ⟨(groupL c).toArray⟩)) := by
  by_cases hC : IsC c
  · cases hf : finB c with
    | true => exact spec_GroupLine_fin gc oc n cc c w hn hC hf hgc hr
    | false => exact spec_GroupLine_inf gc oc n cc c w hn hC hf hgc hr
  · exact spec_GroupLine_no gc oc n cc c w hn hC hx hrl hr
theorem impl_GroupLine_any (gc oc n cc : Nat) (c : List (List Int)) (w : World) (hn : c.length = n) (hx : c.length ≤ 1048576) (hrl : ∀ j, j < c.length → (c.getD j []).length ≤ 1048576) (hcap : n ≤ cc) (hgc : gc < w.heap.size) (hr : Rows2 w gc oc c) (ht : Tab w) (hm : MaxL w) :
    Calls Tryz.prog 8 #[(Value.slice (some ⟨gc, oc, none⟩) n cc)] w (Gives w (.string ⟨(groupL c).toArray⟩)) := by
  by_cases hC : IsC c
  · cases hf : finB c with
    | true => exact impl_GroupLine_fin gc oc n cc c w hn hC hf hcap hgc hr ht hm
    | false => exact impl_GroupLine_inf gc oc n cc c w hn hC hf hcap hgc hr ht hm
  · exact impl_GroupLine_no gc oc n cc c w hn hC hx hrl hr
theorem maxL_shape {w : World} (h : w.ShapedOpen Tryz.prog) : MaxL w :=
  cell_of_shapedOpen_int (zero := #[.int .i64 0]) (t := 3) (k := .i64) (g := 0) h (of_decide_eq_true (by kernel_rfl)) (by kernel_rfl) (by kernel_rfl) (by kernel_rfl) (by kernel_rfl) Tryz.underlying3
end Go.Proofs.YtnpechcnmchneaaGreatDoor
