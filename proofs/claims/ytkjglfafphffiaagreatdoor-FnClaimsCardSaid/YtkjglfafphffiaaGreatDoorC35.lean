/- MkS -/
import Derived.Test.YtkjglfafphffiaaGreatDoorC33
import Derived.Test.YtkjglfafphffiaaGreatDoorC34
import Derived.Test.YtkjglfafphffiaaGreatDoorC13
import Derived.Deep.RegionWith
namespace Go.Proofs.YtkjglfafphffiaaGreatDoor
set_option maxRecDepth 100000
open Go.RowKit Game
def lmkC (kd : Int) (c : List (List Int)) (a b : List Int) : ClaimD := if (isWordB c a && isWordB c b) = true ∧ 1 ≤ kd ∧ kd ≤ 6 then rawC kd c a b else zeroC
set_option maxHeartbeats 1000000 in
theorem spec_l34Make_any (kd : Int) (gc oc n cc g1 o1 n1 c1 g2 o2 n2 c2 : Nat) (c : List (List Int)) (a b : List Int) (w : World) (hn : c.length = n) (hn1 : a.length = n1) (hn2 : b.length = n2)
    (hx : c.length ≤ 1048576) (hrl : ∀ j, j < c.length → (c.getD j []).length ≤ 1048576) (hla : a.length ≤ 1048576) (hlb : b.length ≤ 1048576) (hcap1 : n1 ≤ c1) (_hcap2 : n2 ≤ c2) (hgc : gc < w.heap.size) (hg1 : g1 < w.heap.size) (hg2 : g2 < w.heap.size)
    (hr : Rows2 w gc oc c) (h1 : Cells w g1 o1 a) (h2 : Cells w g2 o2 b) :
    Calls Tryz.prog 36 #[.int .i64 kd, (Value.slice (some ⟨gc, oc, none⟩) n cc), (Value.slice (some ⟨g1, o1, none⟩) n1 c1), (Value.slice (some ⟨g2, o2, none⟩) n2 c2)] w (MadeC w (lmkC kd c a b) (okM kd c a b)) := by
  have k1 := fun (W : World) (hb : Below w.heap.size w W) => spec_IsWord_any gc oc n cc g1 o1 n1 c1 c a W hn hn1 hx hrl hla (hr.below hb hgc) (h1.below hb hg1)
  have k2 := fun (W : World) (hb : Below w.heap.size w W) => spec_IsWord_any gc oc n cc g2 o2 n2 c2 c b W hn hn2 hx hrl hlb (hr.below hb hgc) (h2.below hb hg2)
  have Z2 := Lib.hid (heap_alloc_new w (.cells #[.int .i64 0, .slice none 0 0, .slice none 0 0, .slice none 0 0, .slice none 0 0, .slice none 0 0] 29 (0, 0)))
  have hB2 : Below w.heap.size w (w.alloc (.cells #[.int .i64 0, .slice none 0 0, .slice none 0 0, .slice none 0 0, .slice none 0 0, .slice none 0 0] 29)) := (Below.refl _ _).alloc (Nat.le_refl _) _
  have kC := Lib.hid (fun (W : World) (hb : Below w.heap.size w W) => spec_l2Copy_any gc oc n cc c W hn hx hrl (Nat.lt_of_lt_of_le hgc hb.size) (hr.below hb hgc))
  have H1 := Lib.hid (fun (W : World) (hb : Below w.heap.size w W) => h1.below hb hg1)
  have H2 := Lib.hid (fun (W : World) (hb : Below w.heap.size w W) => h2.below hb hg2)
  have hok : okM kd c a b = ((isWordB c a && isWordB c b) && okC kd c a b) := rfl
  have hsa : isWordB c a = true → seqA c a = seqL c a := fun h => if_pos h
  have kR := Lib.hid (fun (W : World) (hb : Below w.heap.size w W) => spec_IsReduced_any gc oc n cc g1 o1 n1 c1 c a W hn hn1 hx hrl hla (Nat.lt_of_lt_of_le hgc hb.size) (Nat.lt_of_lt_of_le hg1 hb.size) (hr.below hb hgc) (h1.below hb hg1))
  have kS := Lib.hid (fun (W : World) (hb : Below w.heap.size w W) => spec_RootSequence_any gc oc n cc g1 o1 n1 c1 c a W hn hn1 hx hrl hla (by omega) (Nat.lt_of_lt_of_le hgc hb.size) (Nat.lt_of_lt_of_le hg1 hb.size) (hr.below hb hgc) (h1.below hb hg1))
  have kP := Lib.hid (fun (hA : WordOk c a) (hB : WordOk c b) (W : World) (hb : Below w.heap.size w W) => spec_BraidPath_ok gc oc n cc g1 o1 n1 c1 g2 o2 n2 c2 c a b W hn hn1 hn2 hA hB hcap1 (Nat.lt_of_lt_of_le hgc hb.size) (Nat.lt_of_lt_of_le hg1 hb.size) (Nat.lt_of_lt_of_le hg2 hb.size) (hr.below hb hgc) (h1.below hb hg1) (h2.below hb hg2))
  have kU := Lib.hid (fun (hA : WordOk c a) (hB : WordOk c b) (W : World) (hb : Below w.heap.size w W) => spec_SubwordOf_ok gc oc n cc g1 o1 n1 c1 g2 o2 n2 c2 c a b W hn hn1 hn2 hA hB (Nat.lt_of_lt_of_le hgc hb.size) (Nat.lt_of_lt_of_le hg1 hb.size) (Nat.lt_of_lt_of_le hg2 hb.size) (hr.below hb hgc) (h1.below hb hg1) (h2.below hb hg2))
  have kB := Lib.hid (fun (hA : WordOk c a) (hB : WordOk c b) (W : World) (hb : Below w.heap.size w W) => spec_IsBruhatBelow_ok gc oc n cc g1 o1 n1 c1 g2 o2 n2 c2 c a b W hn hn1 hn2 hA hB (Nat.lt_of_lt_of_le hgc hb.size) (Nat.lt_of_lt_of_le hg1 hb.size) (Nat.lt_of_lt_of_le hg2 hb.size) (hr.below hb hgc) (h1.below hb hg1) (h2.below hb hg2))
  have kN1 := Lib.hid (fun (hA : WordOk c a) (W : World) (hb : Below w.heap.size w W) => spec_l8Normal_any gc oc n cc g1 o1 n1 c1 c a (nfI c a) W hn hn1 hA.isC (by have := hA.few; omega) hA.inr (nfI_ok (hA.lets.mono (show 15 ≤ 30 by omega))).norm (Nat.lt_of_lt_of_le hgc hb.size) (Nat.lt_of_lt_of_le hg1 hb.size) (hr.below hb hgc) (h1.below hb hg1))
  have kN2 := Lib.hid (fun (hB : WordOk c b) (W : World) (hb : Below w.heap.size w W) => spec_l8Normal_any gc oc n cc g2 o2 n2 c2 c b (nfI c b) W hn hn2 hB.isC (by have := hB.few; omega) hB.inr (nfI_ok (hB.lets.mono (show 15 ≤ 30 by omega))).norm (Nat.lt_of_lt_of_le hgc hb.size) (Nat.lt_of_lt_of_le hg2 hb.size) (hr.below hb hgc) (h2.below hb hg2))
  have kN3 := Lib.hid (fun (hA : WordOk c a) (hB : WordOk c b) (W : World) (gU cU gV cV : Nat) (hb : Below w.heap.size w W) (hoU : Own W w.heap.size gU cU (nfI c a)) (hoV : Own W w.heap.size gV cV (nfI c b)) => spec_l34Drops_ok gc oc n cc gU cU (nfI c a).length gV cV w.heap.size c (nfI c a) (nfI c b) W hn rfl (nw_nf hA) (nw_nf hB) hb.size (Nat.lt_of_lt_of_le hgc hb.size) (hr.below hb hgc) hoU hoV)
  have kW := Lib.hid (fun (W : World) (hb : Below w.heap.size w W) => spec_WitnessOf_any gc oc n cc c W hn hx hrl (Nat.lt_of_lt_of_le hgc hb.size) (hr.below hb hgc))
  have kV := Lib.hid (fun (hA : WordOk c a) (W : World) (hb : Below w.heap.size w W) => spec_CoversAll_ok gc oc n cc g1 o1 n1 c1 c a W hn hn1 hA (Nat.lt_of_lt_of_le hgc hb.size) (Nat.lt_of_lt_of_le hg1 hb.size) (hr.below hb hgc) (h1.below hb hg1))
  have Hn := Lib.hid hn; have Hn1 := Lib.hid hn1; have Hn2 := Lib.hid hn2
  have Hsa := Lib.hid hsa
  clear hr h1 h2 hrl hsa hn hn1 hn2
  have hwA : isWordB c a = true → WordOk c a := wordOk_of
  have hwB : isWordB c b = true → WordOk c b := wordOk_of
  have hmk : lmkC kd c a b = if (isWordB c a && isWordB c b) = true ∧ 1 ≤ kd ∧ kd ≤ 6 then rawC kd c a b else zeroC := rfl
  have HwA := Lib.hid hwA; have HwB := Lib.hid hwB
  generalize lmkC kd c a b = X at *
  generalize okM kd c a b = O at *
  generalize isWordB c a = wa at *
  generalize isWordB c b = wb at *
  have Hok := Lib.hid hok; have Hmk := Lib.hid hmk
  have k1 := Lib.hid k1; have k2 := Lib.hid k2
  clear hok hmk hwA hwB
  go_enter Tryz.func36, Tryz.ntmps36
  go_wp2_with fail
  refine (kC.out _ hB2).mono ?_
  rintro e w3 ⟨g3, c3, rs, rfl, hcon, ho3, hb3⟩
  have hB3 := hB2.trans (hb3.mono hB2.size)
  have Z3 := Lib.hid ((hb3.block _ (lt_of_block Z2.out)).trans Z2.out)
  have A1 := Lib.hid (show MayR w3 (w.heap.size + 1) w3.heap.size (Value.slice (some ⟨g3, 0, none⟩) n c3) c from (ho3.mono (lt_of_block Z2.out)).mayR hcon Hn.out (Nat.le_refl _))
  rw [Hn.out]
  clear hcon ho3 hB2 Z2
  have hg13 := Nat.lt_of_lt_of_le hg1 hB3.size
  have q1 := Lib.hid (H1.out _ hB3)
  go_wp2_with (at_builtin; refine wpList_clone rfl _ _ rfl g1 o1 _ c1 a Hn1.out hg13 q1.out rfl rfl (by omega) ?_)
  intro g4 c4 w4 ho4 hb4
  have hB4 := hB3.trans (hb4.mono hB3.size)
  have Z4 := Lib.hid ((hb4.block _ (lt_of_block Z3.out)).trans Z3.out)
  have A1 := Lib.hid (A1.out.below hb4 (Nat.le_refl _))
  have A2 := Lib.hid (show MayI w4 w3.heap.size w4.heap.size (Value.slice (some ⟨g4, 0, none⟩) n1 c4) a from ho4.mayI Hn1.out (Nat.le_refl _))
  have hE1 : w.heap.size + 1 ≤ w3.heap.size := lt_of_block Z3.out
  clear ho4 hB3 Z3 q1 hg13
  have hg24 := Nat.lt_of_lt_of_le hg2 hB4.size
  have q2 := Lib.hid (H2.out _ hB4)
  go_wp2_with (at_builtin; refine wpList_clone rfl _ _ rfl g2 o2 _ c2 b Hn2.out hg24 q2.out rfl rfl (by omega) ?_)
  intro g5 c5 w5 ho5 hb5
  have hB5 := hB4.trans (hb5.mono hB4.size)
  have Z5 := Lib.hid ((hb5.block _ (lt_of_block Z4.out)).trans Z4.out)
  have A1 := Lib.hid (A1.out.below hb5 hb4.size)
  have A2 := Lib.hid (A2.out.below hb5 (Nat.le_refl _))
  have A3 := Lib.hid (show MayI w5 w4.heap.size w5.heap.size (Value.slice (some ⟨g5, 0, none⟩) n2 c5) b from ho5.mayI Hn2.out (Nat.le_refl _))
  have hE2 := hb4.size; have hE3 := hb5.size
  clear ho5 hB4 Z4 q2 hg24 hb4 hb5 hb3
  have hb6 : Below w5.heap.size w5 (w5.alloc (.cells #[.int .i64 kd, (Value.slice (some ⟨g3, 0, none⟩) n c3), (Value.slice (some ⟨g4, 0, none⟩) n1 c4), (Value.slice (some ⟨g5, 0, none⟩) n2 c5), .slice none 0 0, .slice none 0 0] 29)) := (Below.refl _ _).alloc (Nat.le_refl _) _
  obtain ⟨w6, hw6⟩ : ∃ W, W = w5.alloc (.cells #[.int .i64 kd, (Value.slice (some ⟨g3, 0, none⟩) n c3), (Value.slice (some ⟨g4, 0, none⟩) n1 c4), (Value.slice (some ⟨g5, 0, none⟩) n2 c5), .slice none 0 0, .slice none 0 0] 29) := ⟨_, rfl⟩
  have C6 := Lib.hid (heap_alloc_new w5 (.cells #[.int .i64 kd, (Value.slice (some ⟨g3, 0, none⟩) n c3), (Value.slice (some ⟨g4, 0, none⟩) n1 c4), (Value.slice (some ⟨g5, 0, none⟩) n2 c5), .slice none 0 0, .slice none 0 0] 29 (0, 0)))
  rw [← hw6] at hb6
  have C6 : Hid (w6.heap[w5.heap.size]? = some (.cells #[.int .i64 kd, (Value.slice (some ⟨g3, 0, none⟩) n c3), (Value.slice (some ⟨g4, 0, none⟩) n1 c4), (Value.slice (some ⟨g5, 0, none⟩) n2 c5), .slice none 0 0, .slice none 0 0] 29 (0, 0))) := by rw [hw6]; exact C6.out
  have hB6 := hB5.trans (hb6.mono hB5.size)
  have Z6 := Lib.hid ((hb6.block _ (lt_of_block Z5.out)).trans Z5.out)
  have A1 := Lib.hid (A1.out.keep hb6); have A2 := Lib.hid (A2.out.keep hb6); have A3 := Lib.hid (A3.out.keep hb6)
  have hsz6 : w5.heap.size + 1 ≤ w6.heap.size := lt_of_block C6.out
  go_wp2_with fail
  rw [← hw6]
  clear hw6 hb6
  refine (k1.out _ hB6).mono ?_
  rintro e w7 ⟨rfl, hs7⟩
  have hb7 : Below w6.heap.size w6 w7 := below_still (Below.refl _ _) hs7
  have hB7 := hB6.trans (hb7.mono hB6.size)
  have Z7 := Lib.hid ((hb7.block _ (lt_of_block Z6.out)).trans Z6.out)
  have C7 := Lib.hid ((hb7.block _ (lt_of_block C6.out)).trans C6.out)
  have A1 := Lib.hid (A1.out.keep hb7); have A2 := Lib.hid (A2.out.keep hb7); have A3 := Lib.hid (A3.out.keep hb7)
  have hsz7 := Nat.le_trans hsz6 hb7.size
  clear hb7 hs7 Z6 C6 hB6
  cases wa with
  | false =>
    obtain rfl : O = false := Hok.out
    have e1 : X = zeroC := Hmk.out.trans (if_neg (by simp))
    have cc : ∀ j, w7.cell? ⟨w5.heap.size, j, none⟩ = (#[.int .i64 kd, (Value.slice (some ⟨g3, 0, none⟩) n c3), (Value.slice (some ⟨g4, 0, none⟩) n1 c4), (Value.slice (some ⟨g5, 0, none⟩) n2 c5), .slice none 0 0, .slice none 0 0] : Array Value)[j]? := fun j => cell_of_cells C7.out j
    have fc : ∀ j, w7.frozen? ⟨w5.heap.size, j, none⟩ = false := fun j => free_of_cells C7.out j
    have dd : ∀ j, w7.cell? ⟨w.heap.size, j, none⟩ = (#[.int .i64 0, .slice none 0 0, .slice none 0 0, .slice none 0 0, .slice none 0 0, .slice none 0 0] : Array Value)[j]? := fun j => cell_of_cells Z7.out j
    have fd : ∀ j, w7.frozen? ⟨w.heap.size, j, none⟩ = false := fun j => free_of_cells Z7.out j
    go_wp2_with fail
    refine bodyPost_ret (v := .tuple #[zeroV, .bool false]) (by simp [results, Tryz.results36, go_sem, dd, zeroV]) rfl ?_
    clear cc fc dd fd
    rw [e1]
    refine MadeC.zero (Below.only hB7 (only_six _ w.heap.size _ _ _ _ _ _) (Nat.le_refl _) (Nat.le_refl _))
  | true =>
  have hA := HwA.out rfl
  go_wp2_with fail
  refine (k2.out _ hB7).mono ?_
  rintro e w8 ⟨rfl, hs8⟩
  have hb8 : Below w7.heap.size w7 w8 := below_still (Below.refl _ _) hs8
  have hB8 := hB7.trans (hb8.mono hB7.size)
  have Z8 := Lib.hid ((hb8.block _ (lt_of_block Z7.out)).trans Z7.out)
  have C8 := Lib.hid ((hb8.block _ (lt_of_block C7.out)).trans C7.out)
  have A1 := Lib.hid (A1.out.keep hb8); have A2 := Lib.hid (A2.out.keep hb8); have A3 := Lib.hid (A3.out.keep hb8)
  have hsz8 := Nat.le_trans hsz7 hb8.size
  clear hb8 hs8 Z7 C7 hB7
  cases wb with
  | false =>
    obtain rfl : O = false := Hok.out
    have e1 : X = zeroC := Hmk.out.trans (if_neg (by simp))
    have cc : ∀ j, w8.cell? ⟨w5.heap.size, j, none⟩ = (#[.int .i64 kd, (Value.slice (some ⟨g3, 0, none⟩) n c3), (Value.slice (some ⟨g4, 0, none⟩) n1 c4), (Value.slice (some ⟨g5, 0, none⟩) n2 c5), .slice none 0 0, .slice none 0 0] : Array Value)[j]? := fun j => cell_of_cells C8.out j
    have fc : ∀ j, w8.frozen? ⟨w5.heap.size, j, none⟩ = false := fun j => free_of_cells C8.out j
    have dd : ∀ j, w8.cell? ⟨w.heap.size, j, none⟩ = (#[.int .i64 0, .slice none 0 0, .slice none 0 0, .slice none 0 0, .slice none 0 0, .slice none 0 0] : Array Value)[j]? := fun j => cell_of_cells Z8.out j
    have fd : ∀ j, w8.frozen? ⟨w.heap.size, j, none⟩ = false := fun j => free_of_cells Z8.out j
    go_wp2_with fail
    refine bodyPost_ret (v := .tuple #[zeroV, .bool false]) (by simp [results, Tryz.results36, go_sem, dd, zeroV]) rfl ?_
    clear cc fc dd fd
    rw [e1]
    refine MadeC.zero (Below.only hB8 (only_six _ w.heap.size _ _ _ _ _ _) (Nat.le_refl _) (Nat.le_refl _))
  | true =>
  have hB := HwB.out rfl
  have hok : O = okC kd c a b := Hok.out
  have hmk : X = if 1 ≤ kd ∧ kd ≤ 6 then rawC kd c a b else zeroC := by rw [Hmk.out]; simp
  have Hsa := Lib.hid (show seqA c a = seqL c a by simpa using Hsa.out)
  clear Hok Hmk HwA HwB k1 k2 kC H1 H2
  by_cases h1 : kd = 1
  · subst h1
    have e1 : X = ⟨1, c, a, b, [], seqL c a⟩ := by rw [hmk, if_pos (by omega)]; show (⟨1, c, a, b, proofC 1 c a b, rootsC 1 c a⟩ : ClaimD) = _; simp [proofC, rootsC, Hsa.out]
    have e2 : O = redW c a := hok
    have E1 := Lib.hid e1; have E2 := Lib.hid e2
    have Hql := Lib.hid (show (seqL c a).length = a.length by simp [seqL])
    have kS1 := kS.out; rw [Hsa.out] at kS1; have KS := Lib.hid kS1
    have KR := Lib.hid kR.out
    clear e1 e2 kS kS1 hmk hok Hsa kR kP kU kB kN1 kN2 kN3 kW kV hA hB
    go_wp2_with fail
    refine (KS.out _ hB8).mono ?_
    rintro e w9 ⟨g9, c9, rs9, rfl, hcon9, ho9, hb9⟩
    have hB9 := hB8.trans (hb9.mono hB8.size)
    have Z9 := Lib.hid ((hb9.block _ (lt_of_block Z8.out)).trans Z8.out)
    have C9 := Lib.hid ((hb9.block _ (lt_of_block C8.out)).trans C8.out)
    have A1 := Lib.hid (A1.out.keep hb9); have A2 := Lib.hid (A2.out.keep hb9); have A3 := Lib.hid (A3.out.keep hb9)
    have hsz9 := Nat.le_trans hsz8 hb9.size
    have A5 := Lib.hid (show MayR w9 w8.heap.size w9.heap.size (Value.slice (some ⟨g9, 0, none⟩) n1 c9) (seqL c a) from ho9.mayR hcon9 (by rw [Hql.out, Hn1.out]) (Nat.le_refl _))
    have hsz89 := hb9.size
    rw [Hql.out, Hn1.out]
    have cc : ∀ j, w9.cell? ⟨w5.heap.size, j, none⟩ = (#[.int .i64 1, (Value.slice (some ⟨g3, 0, none⟩) n c3), (Value.slice (some ⟨g4, 0, none⟩) n1 c4), (Value.slice (some ⟨g5, 0, none⟩) n2 c5), .slice none 0 0, .slice none 0 0] : Array Value)[j]? := fun j => cell_of_cells C9.out j
    have fc : ∀ j, w9.frozen? ⟨w5.heap.size, j, none⟩ = false := fun j => free_of_cells C9.out j
    have dd : ∀ j, w9.cell? ⟨w.heap.size, j, none⟩ = (#[.int .i64 0, .slice none 0 0, .slice none 0 0, .slice none 0 0, .slice none 0 0, .slice none 0 0] : Array Value)[j]? := fun j => cell_of_cells Z9.out j
    have fd : ∀ j, w9.frozen? ⟨w.heap.size, j, none⟩ = false := fun j => free_of_cells Z9.out j
    clear hb9 hcon9 ho9 Z8 C8 hB8
    go_wp2_with fail
    clear cc fc dd fd
    have CW : (w9.setCell ⟨w5.heap.size, 5, none⟩ (Value.slice (some ⟨g9, 0, none⟩) n1 c9)).heap[w5.heap.size]? = some (.cells #[.int .i64 1, (Value.slice (some ⟨g3, 0, none⟩) n c3), (Value.slice (some ⟨g4, 0, none⟩) n1 c4), (Value.slice (some ⟨g5, 0, none⟩) n2 c5), .slice none 0 0, (Value.slice (some ⟨g9, 0, none⟩) n1 c9)] 29 (0, 0)) := by rw [heap_setCell_same w9 _ 5 _ _ (Value.slice (some ⟨g9, 0, none⟩) n1 c9) C9.out]; rfl
    have ZW : (w9.setCell ⟨w5.heap.size, 5, none⟩ (Value.slice (some ⟨g9, 0, none⟩) n1 c9)).heap[w.heap.size]? = some (.cells #[.int .i64 0, .slice none 0 0, .slice none 0 0, .slice none 0 0, .slice none 0 0, .slice none 0 0] 29 (0, 0)) := (Below.heap_setCell w9 ⟨w5.heap.size, 5, none⟩ (Value.slice (some ⟨g9, 0, none⟩) n1 c9) w.heap.size (by show w.heap.size ≠ w5.heap.size; omega)).trans Z9.out
    have OW : Only w5.heap.size (w5.heap.size + 1) w9 (w9.setCell ⟨w5.heap.size, 5, none⟩ (Value.slice (some ⟨g9, 0, none⟩) n1 c9)) := only_set _ ⟨w5.heap.size, 5, none⟩ _ (Nat.le_refl _) (Nat.lt_succ_self _)
    have BW : Below w.heap.size w (w9.setCell ⟨w5.heap.size, 5, none⟩ (Value.slice (some ⟨g9, 0, none⟩) n1 c9)) := Below.only hB9 OW (by have := hB5.size; omega) (Nat.le_refl _)
    generalize w9.setCell ⟨w5.heap.size, 5, none⟩ (Value.slice (some ⟨g9, 0, none⟩) n1 c9) = W at *
    have BDW := Lib.hid (show Below w.heap.size w W.drew from Below.drew BW)
    have DW := Lib.hid (show ∀ wA, Below W.drew.heap.size W.drew wA → (∀ j, wA.cell? ⟨w5.heap.size, j, none⟩ = (#[.int .i64 1, (Value.slice (some ⟨g3, 0, none⟩) n c3), (Value.slice (some ⟨g4, 0, none⟩) n1 c4), (Value.slice (some ⟨g5, 0, none⟩) n2 c5), .slice none 0 0, (Value.slice (some ⟨g9, 0, none⟩) n1 c9)] : Array Value)[j]?) ∧ (∀ j, wA.cell? ⟨w.heap.size, j, none⟩ = (#[.int .i64 0, .slice none 0 0, .slice none 0 0, .slice none 0 0, .slice none 0 0, .slice none 0 0] : Array Value)[j]?) ∧ ∀ j, wA.frozen? ⟨w.heap.size, j, none⟩ = false from fun wA hbA => by
      have q1 := (hbA.block _ (lt_of_block (w := W.drew) CW)).trans CW
      have q2 := (hbA.block _ (lt_of_block (w := W.drew) ZW)).trans ZW
      exact ⟨fun j => cell_of_cells q1 j, fun j => cell_of_cells q2 j, fun j => free_of_cells q2 j⟩)
    have ccd : ∀ j, W.drew.cell? ⟨w5.heap.size, j, none⟩ = (#[.int .i64 1, (Value.slice (some ⟨g3, 0, none⟩) n c3), (Value.slice (some ⟨g4, 0, none⟩) n1 c4), (Value.slice (some ⟨g5, 0, none⟩) n2 c5), .slice none 0 0, (Value.slice (some ⟨g9, 0, none⟩) n1 c9)] : Array Value)[j]? := fun j => cell_of_cells (w := W.drew) CW j
    have fdd : ∀ j, W.drew.frozen? ⟨w.heap.size, j, none⟩ = false := fun j => free_of_cells (w := W.drew) ZW j
    have HOW := Lib.hid OW; have HBW := Lib.hid BW
    clear OW BW CW ZW
    go_region_with (go_at_call 12; refine (KR.out _ BDW.out).mono ?_; rintro e wA ⟨rfl, hbA⟩; obtain ⟨ccA, ddA, fdA⟩ := DW.out wA hbA)
    all_goals
      go_wp2_with fail
      refine bodyPost_ret (v := .tuple #[.agg #[.int .i64 1, (Value.slice (some ⟨g3, 0, none⟩) n c3), (Value.slice (some ⟨g4, 0, none⟩) n1 c4), (Value.slice (some ⟨g5, 0, none⟩) n2 c5), .slice none 0 0, (Value.slice (some ⟨g9, 0, none⟩) n1 c9)], .bool (redW c a)]) (by simp [results, Tryz.results36, go_sem, ddA]) rfl ?_
      have hbW : Below W.heap.size W wA := (Below.drew (Below.refl _ W)).trans hbA
      have hszW := HOW.out.size
      have hszA := hbW.size
      clear ccA ddA fdA ccd fdd
      rw [E1.out, E2.out]
      exact MadeC.fin (HBW.out.trans (hbW.mono HBW.out.size)) hE1 hE2 hE3 (E4 := w8.heap.size) (by omega) (by omega) ((A1.out.only HOW.out (.inl (by omega))).keep hbW) ((A2.out.only HOW.out (.inl (by omega))).keep hbW) ((A3.out.only HOW.out (.inl (by omega))).keep hbW) (.inl ⟨rfl, rfl⟩) (((A5.out.only HOW.out (.inr (by omega))).keep hbW).wide (Nat.le_refl _) (by omega)) (Only.refl w5.heap.size (w5.heap.size + 1) _) (only_six _ w.heap.size _ _ _ _ _ _)
  by_cases h2 : kd = 2
  · subst h2
    have e1 : X = ⟨2, c, a, b, (pathA c a b).getD [], []⟩ := by rw [hmk, if_pos (by omega)]; show (⟨2, c, a, b, proofC 2 c a b, rootsC 2 c a⟩ : ClaimD) = _; simp [proofC, rootsC]
    have e2 : O = (pathA c a b).isSome := hok
    have kk := kP.out hA hB
    generalize (pathA c a b).getD [] = PR at *
    have E1 := Lib.hid e1; have E2 := Lib.hid e2; have KK := Lib.hid kk
    clear e1 e2 kk hmk hok Hsa kR kS kP kU kB kN1 kN2 kN3 kW kV hA hB h1
    go_wp2_with fail
    refine (KK.out _ hB8).mono ?_
    rintro e w9 ⟨g9, c9, rfl, ho9, hb9⟩
    have hB9 := hB8.trans (hb9.mono hB8.size)
    have Z9 := Lib.hid ((hb9.block _ (lt_of_block Z8.out)).trans Z8.out)
    have C9 := Lib.hid ((hb9.block _ (lt_of_block C8.out)).trans C8.out)
    have A1 := Lib.hid (A1.out.keep hb9); have A2 := Lib.hid (A2.out.keep hb9); have A3 := Lib.hid (A3.out.keep hb9)
    have hsz9 := Nat.le_trans hsz8 hb9.size
    have A4 := Lib.hid (show MayI w9 (w5.heap.size + 1) w9.heap.size (Value.slice (some ⟨g9, 0, none⟩) PR.length c9) PR from (ho9.mayI rfl (Nat.le_refl _)).wide hsz8 (Nat.le_refl _))
    have cc : ∀ j, w9.cell? ⟨w5.heap.size, j, none⟩ = (#[.int .i64 2, (Value.slice (some ⟨g3, 0, none⟩) n c3), (Value.slice (some ⟨g4, 0, none⟩) n1 c4), (Value.slice (some ⟨g5, 0, none⟩) n2 c5), .slice none 0 0, .slice none 0 0] : Array Value)[j]? := fun j => cell_of_cells C9.out j
    have fc : ∀ j, w9.frozen? ⟨w5.heap.size, j, none⟩ = false := fun j => free_of_cells C9.out j
    have dd : ∀ j, w9.cell? ⟨w.heap.size, j, none⟩ = (#[.int .i64 0, .slice none 0 0, .slice none 0 0, .slice none 0 0, .slice none 0 0, .slice none 0 0] : Array Value)[j]? := fun j => cell_of_cells Z9.out j
    have fd : ∀ j, w9.frozen? ⟨w.heap.size, j, none⟩ = false := fun j => free_of_cells Z9.out j
    clear hb9 ho9 Z8 C8 hB8
    go_wp2_with fail
    refine bodyPost_ret (v := .tuple #[.agg #[.int .i64 2, (Value.slice (some ⟨g3, 0, none⟩) n c3), (Value.slice (some ⟨g4, 0, none⟩) n1 c4), (Value.slice (some ⟨g5, 0, none⟩) n2 c5), (Value.slice (some ⟨g9, 0, none⟩) PR.length c9), .slice none 0 0], .bool ((pathA c a b).isSome)]) (by simp [results, Tryz.results36, go_sem, dd]) rfl ?_
    clear cc fc dd fd
    rw [E1.out, E2.out]
    exact MadeC.fin hB9 hE1 hE2 hE3 (E4 := w9.heap.size) (by omega) (by omega) A1.out A2.out A3.out A4.out (.inl ⟨rfl, rfl⟩) (only_set _ ⟨w5.heap.size, 4, none⟩ _ (Nat.le_refl _) (Nat.lt_succ_self _)) (only_six _ w.heap.size _ _ _ _ _ _)
  by_cases h3 : kd = 3
  · subst h3
    have e1 : X = ⟨3, c, a, b, (if bruB c a b = true then subL c a b else []), []⟩ := by rw [hmk, if_pos (by omega)]; show (⟨3, c, a, b, proofC 3 c a b, rootsC 3 c a⟩ : ClaimD) = _; simp [proofC, rootsC]
    have e2 : O = bruB c a b := hok
    have kk := kU.out hA hB
    generalize (if bruB c a b = true then subL c a b else []) = PR at *
    have E1 := Lib.hid e1; have E2 := Lib.hid e2; have KK := Lib.hid kk
    clear e1 e2 kk hmk hok Hsa kR kS kP kU kB kN1 kN2 kN3 kW kV hA hB h1 h2
    go_wp2_with fail
    refine (KK.out _ hB8).mono ?_
    rintro e w9 ⟨g9, c9, rfl, ho9, hb9⟩
    have hB9 := hB8.trans (hb9.mono hB8.size)
    have Z9 := Lib.hid ((hb9.block _ (lt_of_block Z8.out)).trans Z8.out)
    have C9 := Lib.hid ((hb9.block _ (lt_of_block C8.out)).trans C8.out)
    have A1 := Lib.hid (A1.out.keep hb9); have A2 := Lib.hid (A2.out.keep hb9); have A3 := Lib.hid (A3.out.keep hb9)
    have hsz9 := Nat.le_trans hsz8 hb9.size
    have A4 := Lib.hid (show MayI w9 (w5.heap.size + 1) w9.heap.size (Value.slice (some ⟨g9, 0, none⟩) PR.length c9) PR from (ho9.mayI rfl (Nat.le_refl _)).wide hsz8 (Nat.le_refl _))
    have cc : ∀ j, w9.cell? ⟨w5.heap.size, j, none⟩ = (#[.int .i64 3, (Value.slice (some ⟨g3, 0, none⟩) n c3), (Value.slice (some ⟨g4, 0, none⟩) n1 c4), (Value.slice (some ⟨g5, 0, none⟩) n2 c5), .slice none 0 0, .slice none 0 0] : Array Value)[j]? := fun j => cell_of_cells C9.out j
    have fc : ∀ j, w9.frozen? ⟨w5.heap.size, j, none⟩ = false := fun j => free_of_cells C9.out j
    have dd : ∀ j, w9.cell? ⟨w.heap.size, j, none⟩ = (#[.int .i64 0, .slice none 0 0, .slice none 0 0, .slice none 0 0, .slice none 0 0, .slice none 0 0] : Array Value)[j]? := fun j => cell_of_cells Z9.out j
    have fd : ∀ j, w9.frozen? ⟨w.heap.size, j, none⟩ = false := fun j => free_of_cells Z9.out j
    clear hb9 ho9 Z8 C8 hB8
    go_wp2_with fail
    refine bodyPost_ret (v := .tuple #[.agg #[.int .i64 3, (Value.slice (some ⟨g3, 0, none⟩) n c3), (Value.slice (some ⟨g4, 0, none⟩) n1 c4), (Value.slice (some ⟨g5, 0, none⟩) n2 c5), (Value.slice (some ⟨g9, 0, none⟩) PR.length c9), .slice none 0 0], .bool (bruB c a b)]) (by simp [results, Tryz.results36, go_sem, dd]) rfl ?_
    clear cc fc dd fd
    rw [E1.out, E2.out]
    exact MadeC.fin hB9 hE1 hE2 hE3 (E4 := w9.heap.size) (by omega) (by omega) A1.out A2.out A3.out A4.out (.inl ⟨rfl, rfl⟩) (only_set _ ⟨w5.heap.size, 4, none⟩ _ (Nat.le_refl _) (Nat.lt_succ_self _)) (only_six _ w.heap.size _ _ _ _ _ _)
  by_cases h4 : kd = 4
  · subst h4
    have e1 : X = ⟨4, c, a, b, dropL c (nfI c b) (nfI c a), []⟩ := by rw [hmk, if_pos (by omega)]; show (⟨4, c, a, b, proofC 4 c a b, rootsC 4 c a⟩ : ClaimD) = _; simp [proofC, rootsC]
    have e2 : O = !bruB c a b := hok
    have KA := Lib.hid (kN1.out hA); have KB := Lib.hid (kN2.out hB); have kD := kN3.out hA hB; have kk := kB.out hA hB
    generalize dropL c (nfI c b) (nfI c a) = PR at *
    generalize bruB c a b = BB at *
    have E1 := Lib.hid e1; have E2 := Lib.hid e2; have KK := Lib.hid kk; have KD := Lib.hid kD
    obtain ⟨mA, hmA⟩ : ∃ m, (nfI c a).length = m := ⟨_, rfl⟩
    obtain ⟨mB, hmB⟩ : ∃ m, (nfI c b).length = m := ⟨_, rfl⟩
    rw [hmA, hmB] at KD
    have HmA := Lib.hid hmA; have HmB := Lib.hid hmB
    clear e1 e2 kk kD hmk hok Hsa kR kS kP kU kB kN1 kN2 kN3 kW kV hA hB h1 h2 h3 hmA hmB
    go_wp2_with fail
    refine (KA.out _ hB8).mono ?_
    rintro e w9 ⟨gU, cU, rfl, hoU, hb9⟩
    rw [HmA.out]
    have hB9 := hB8.trans (hb9.mono hB8.size)
    have Z9 := Lib.hid ((hb9.block _ (lt_of_block Z8.out)).trans Z8.out)
    have C9 := Lib.hid ((hb9.block _ (lt_of_block C8.out)).trans C8.out)
    have A1 := Lib.hid (A1.out.keep hb9); have A2 := Lib.hid (A2.out.keep hb9); have A3 := Lib.hid (A3.out.keep hb9)
    have hsz9 := Nat.le_trans hsz8 hb9.size
    have hoU9 := hoU.mono hB8.size
    clear hb9 hoU Z8 C8 hB8
    go_wp2_with fail
    refine (KB.out _ hB9).mono ?_
    rintro e w10 ⟨gV, cV, rfl, hoV, hb10⟩
    rw [HmB.out]
    have hB10 := hB9.trans (hb10.mono hB9.size)
    have Z10 := Lib.hid ((hb10.block _ (lt_of_block Z9.out)).trans Z9.out)
    have C10 := Lib.hid ((hb10.block _ (lt_of_block C9.out)).trans C9.out)
    have A1 := Lib.hid (A1.out.keep hb10); have A2 := Lib.hid (A2.out.keep hb10); have A3 := Lib.hid (A3.out.keep hb10)
    have hsz10 := Nat.le_trans hsz9 hb10.size
    have hoU10 := hoU9.below hb10 hoU9.lt
    have hoV10 := hoV.mono hB9.size
    clear hb10 hoU9 hoV Z9 C9 hB9
    go_wp2_with fail
    refine (KD.out _ gU cU gV cV hB10 hoU10 hoV10).mono ?_
    rintro e w11 ⟨g9, c9, rfl, ho9, hb11⟩
    have hB11 := hB10.trans (hb11.mono hB10.size)
    have Z11 := Lib.hid ((hb11.block _ (lt_of_block Z10.out)).trans Z10.out)
    have C11 := Lib.hid ((hb11.block _ (lt_of_block C10.out)).trans C10.out)
    have A1 := Lib.hid (A1.out.keep hb11); have A2 := Lib.hid (A2.out.keep hb11); have A3 := Lib.hid (A3.out.keep hb11)
    have hsz11 := Nat.le_trans hsz10 hb11.size
    have A4 := Lib.hid (show MayI w11 (w5.heap.size + 1) w11.heap.size (Value.slice (some ⟨g9, 0, none⟩) PR.length c9) PR from (ho9.mayI rfl (Nat.le_refl _)).wide hsz10 (Nat.le_refl _))
    have cc : ∀ j, w11.cell? ⟨w5.heap.size, j, none⟩ = (#[.int .i64 4, (Value.slice (some ⟨g3, 0, none⟩) n c3), (Value.slice (some ⟨g4, 0, none⟩) n1 c4), (Value.slice (some ⟨g5, 0, none⟩) n2 c5), .slice none 0 0, .slice none 0 0] : Array Value)[j]? := fun j => cell_of_cells C11.out j
    have fc : ∀ j, w11.frozen? ⟨w5.heap.size, j, none⟩ = false := fun j => free_of_cells C11.out j
    have dd : ∀ j, w11.cell? ⟨w.heap.size, j, none⟩ = (#[.int .i64 0, .slice none 0 0, .slice none 0 0, .slice none 0 0, .slice none 0 0, .slice none 0 0] : Array Value)[j]? := fun j => cell_of_cells Z11.out j
    have fd : ∀ j, w11.frozen? ⟨w.heap.size, j, none⟩ = false := fun j => free_of_cells Z11.out j
    clear hb11 ho9 Z10 C10 hB10 hoU10 hoV10
    go_wp2_with fail
    clear cc fc dd fd
    have CW : (w11.setCell ⟨w5.heap.size, 4, none⟩ (Value.slice (some ⟨g9, 0, none⟩) PR.length c9)).heap[w5.heap.size]? = some (.cells #[.int .i64 4, (Value.slice (some ⟨g3, 0, none⟩) n c3), (Value.slice (some ⟨g4, 0, none⟩) n1 c4), (Value.slice (some ⟨g5, 0, none⟩) n2 c5), (Value.slice (some ⟨g9, 0, none⟩) PR.length c9), .slice none 0 0] 29 (0, 0)) := by rw [heap_setCell_same w11 _ 4 _ _ (Value.slice (some ⟨g9, 0, none⟩) PR.length c9) C11.out]; rfl
    have ZW : (w11.setCell ⟨w5.heap.size, 4, none⟩ (Value.slice (some ⟨g9, 0, none⟩) PR.length c9)).heap[w.heap.size]? = some (.cells #[.int .i64 0, .slice none 0 0, .slice none 0 0, .slice none 0 0, .slice none 0 0, .slice none 0 0] 29 (0, 0)) := (Below.heap_setCell w11 ⟨w5.heap.size, 4, none⟩ (Value.slice (some ⟨g9, 0, none⟩) PR.length c9) w.heap.size (by show w.heap.size ≠ w5.heap.size; omega)).trans Z11.out
    have OW : Only w5.heap.size (w5.heap.size + 1) w11 (w11.setCell ⟨w5.heap.size, 4, none⟩ (Value.slice (some ⟨g9, 0, none⟩) PR.length c9)) := only_set _ ⟨w5.heap.size, 4, none⟩ _ (Nat.le_refl _) (Nat.lt_succ_self _)
    have BW : Below w.heap.size w (w11.setCell ⟨w5.heap.size, 4, none⟩ (Value.slice (some ⟨g9, 0, none⟩) PR.length c9)) := Below.only hB11 OW (by have := hB5.size; omega) (Nat.le_refl _)
    generalize w11.setCell ⟨w5.heap.size, 4, none⟩ (Value.slice (some ⟨g9, 0, none⟩) PR.length c9) = W at *
    have BDW := Lib.hid (show Below w.heap.size w W.drew from Below.drew BW)
    have DW := Lib.hid (show ∀ wA, Below W.drew.heap.size W.drew wA → (∀ j, wA.cell? ⟨w5.heap.size, j, none⟩ = (#[.int .i64 4, (Value.slice (some ⟨g3, 0, none⟩) n c3), (Value.slice (some ⟨g4, 0, none⟩) n1 c4), (Value.slice (some ⟨g5, 0, none⟩) n2 c5), (Value.slice (some ⟨g9, 0, none⟩) PR.length c9), .slice none 0 0] : Array Value)[j]?) ∧ (∀ j, wA.cell? ⟨w.heap.size, j, none⟩ = (#[.int .i64 0, .slice none 0 0, .slice none 0 0, .slice none 0 0, .slice none 0 0, .slice none 0 0] : Array Value)[j]?) ∧ ∀ j, wA.frozen? ⟨w.heap.size, j, none⟩ = false from fun wA hbA => by
      have q1 := (hbA.block _ (lt_of_block (w := W.drew) CW)).trans CW
      have q2 := (hbA.block _ (lt_of_block (w := W.drew) ZW)).trans ZW
      exact ⟨fun j => cell_of_cells q1 j, fun j => cell_of_cells q2 j, fun j => free_of_cells q2 j⟩)
    have ccd : ∀ j, W.drew.cell? ⟨w5.heap.size, j, none⟩ = (#[.int .i64 4, (Value.slice (some ⟨g3, 0, none⟩) n c3), (Value.slice (some ⟨g4, 0, none⟩) n1 c4), (Value.slice (some ⟨g5, 0, none⟩) n2 c5), (Value.slice (some ⟨g9, 0, none⟩) PR.length c9), .slice none 0 0] : Array Value)[j]? := fun j => cell_of_cells (w := W.drew) CW j
    have fdd : ∀ j, W.drew.frozen? ⟨w.heap.size, j, none⟩ = false := fun j => free_of_cells (w := W.drew) ZW j
    have HOW := Lib.hid OW; have HBW := Lib.hid BW
    clear OW BW CW ZW
    go_region_with (go_at_call 14; refine (KK.out _ BDW.out).mono ?_; rintro e wA ⟨rfl, hbA⟩; obtain ⟨ccA, ddA, fdA⟩ := DW.out wA hbA)
    all_goals
      go_wp2_with fail
      refine bodyPost_ret (v := .tuple #[.agg #[.int .i64 4, (Value.slice (some ⟨g3, 0, none⟩) n c3), (Value.slice (some ⟨g4, 0, none⟩) n1 c4), (Value.slice (some ⟨g5, 0, none⟩) n2 c5), (Value.slice (some ⟨g9, 0, none⟩) PR.length c9), .slice none 0 0], .bool (!BB)]) (by simp [results, Tryz.results36, go_sem, ddA]) rfl ?_
      have hbW : Below W.heap.size W wA := (Below.drew (Below.refl _ W)).trans hbA
      have hszW := HOW.out.size
      have hszA := hbW.size
      clear ccA ddA fdA ccd fdd
      rw [E1.out, E2.out]
      exact MadeC.fin (HBW.out.trans (hbW.mono HBW.out.size)) hE1 hE2 hE3 (E4 := w11.heap.size) (by omega) (by omega) ((A1.out.only HOW.out (.inl (by omega))).keep hbW) ((A2.out.only HOW.out (.inl (by omega))).keep hbW) ((A3.out.only HOW.out (.inl (by omega))).keep hbW) ((A4.out.only HOW.out (.inr (by omega))).keep hbW) (.inl ⟨rfl, rfl⟩) (Only.refl w5.heap.size (w5.heap.size + 1) _) (only_six _ w.heap.size _ _ _ _ _ _)
  by_cases h5 : kd = 5
  · subst h5
    have e1 : X = ⟨5, c, a, b, witness c, []⟩ := by rw [hmk, if_pos (by omega)]; show (⟨5, c, a, b, proofC 5 c a b, rootsC 5 c a⟩ : ClaimD) = _; simp [proofC, rootsC]
    have e2 : O = decide (0 < (witness c).length) := by
      rw [hok, show okC 5 c a b = !finB c from rfl]
      unfold finB
      rw [decide_eq_true hA.isC, Bool.true_and]
      cases witness c <;> simp <;> omega
    have kk := kW.out
    generalize witness c = PR at *
    have E1 := Lib.hid e1; have E2 := Lib.hid e2; have KK := Lib.hid kk
    clear e1 e2 kk hmk hok Hsa kR kS kP kU kB kN1 kN2 kN3 kW kV hA hB h1 h2 h3 h4
    go_wp2_with fail
    refine (KK.out _ hB8).mono ?_
    rintro e w9 ⟨g9, c9, rfl, ho9, hb9⟩
    have hB9 := hB8.trans (hb9.mono hB8.size)
    have Z9 := Lib.hid ((hb9.block _ (lt_of_block Z8.out)).trans Z8.out)
    have C9 := Lib.hid ((hb9.block _ (lt_of_block C8.out)).trans C8.out)
    have A1 := Lib.hid (A1.out.keep hb9); have A2 := Lib.hid (A2.out.keep hb9); have A3 := Lib.hid (A3.out.keep hb9)
    have hsz9 := Nat.le_trans hsz8 hb9.size
    have A4 := Lib.hid (show MayI w9 (w5.heap.size + 1) w9.heap.size (Value.slice (some ⟨g9, 0, none⟩) PR.length c9) PR from (ho9.mayI rfl (Nat.le_refl _)).wide hsz8 (Nat.le_refl _))
    have cc : ∀ j, w9.cell? ⟨w5.heap.size, j, none⟩ = (#[.int .i64 5, (Value.slice (some ⟨g3, 0, none⟩) n c3), (Value.slice (some ⟨g4, 0, none⟩) n1 c4), (Value.slice (some ⟨g5, 0, none⟩) n2 c5), .slice none 0 0, .slice none 0 0] : Array Value)[j]? := fun j => cell_of_cells C9.out j
    have fc : ∀ j, w9.frozen? ⟨w5.heap.size, j, none⟩ = false := fun j => free_of_cells C9.out j
    have dd : ∀ j, w9.cell? ⟨w.heap.size, j, none⟩ = (#[.int .i64 0, .slice none 0 0, .slice none 0 0, .slice none 0 0, .slice none 0 0, .slice none 0 0] : Array Value)[j]? := fun j => cell_of_cells Z9.out j
    have fd : ∀ j, w9.frozen? ⟨w.heap.size, j, none⟩ = false := fun j => free_of_cells Z9.out j
    clear hb9 ho9 Z8 C8 hB8
    go_wp2_with fail
    clear cc fc dd fd
    have CW : (w9.setCell ⟨w5.heap.size, 4, none⟩ (Value.slice (some ⟨g9, 0, none⟩) PR.length c9)).heap[w5.heap.size]? = some (.cells #[.int .i64 5, (Value.slice (some ⟨g3, 0, none⟩) n c3), (Value.slice (some ⟨g4, 0, none⟩) n1 c4), (Value.slice (some ⟨g5, 0, none⟩) n2 c5), (Value.slice (some ⟨g9, 0, none⟩) PR.length c9), .slice none 0 0] 29 (0, 0)) := by rw [heap_setCell_same w9 _ 4 _ _ (Value.slice (some ⟨g9, 0, none⟩) PR.length c9) C9.out]; rfl
    have ZW : (w9.setCell ⟨w5.heap.size, 4, none⟩ (Value.slice (some ⟨g9, 0, none⟩) PR.length c9)).heap[w.heap.size]? = some (.cells #[.int .i64 0, .slice none 0 0, .slice none 0 0, .slice none 0 0, .slice none 0 0, .slice none 0 0] 29 (0, 0)) := (Below.heap_setCell w9 ⟨w5.heap.size, 4, none⟩ (Value.slice (some ⟨g9, 0, none⟩) PR.length c9) w.heap.size (by show w.heap.size ≠ w5.heap.size; omega)).trans Z9.out
    have OW : Only w5.heap.size (w5.heap.size + 1) w9 (w9.setCell ⟨w5.heap.size, 4, none⟩ (Value.slice (some ⟨g9, 0, none⟩) PR.length c9)) := only_set _ ⟨w5.heap.size, 4, none⟩ _ (Nat.le_refl _) (Nat.lt_succ_self _)
    have BW : Below w.heap.size w (w9.setCell ⟨w5.heap.size, 4, none⟩ (Value.slice (some ⟨g9, 0, none⟩) PR.length c9)) := Below.only hB9 OW (by have := hB5.size; omega) (Nat.le_refl _)
    generalize w9.setCell ⟨w5.heap.size, 4, none⟩ (Value.slice (some ⟨g9, 0, none⟩) PR.length c9) = W at *
    have BDW := Lib.hid (show Below w.heap.size w W.drew from Below.drew BW)
    have DW := Lib.hid (show ∀ wA, Below W.drew.heap.size W.drew wA → (∀ j, wA.cell? ⟨w5.heap.size, j, none⟩ = (#[.int .i64 5, (Value.slice (some ⟨g3, 0, none⟩) n c3), (Value.slice (some ⟨g4, 0, none⟩) n1 c4), (Value.slice (some ⟨g5, 0, none⟩) n2 c5), (Value.slice (some ⟨g9, 0, none⟩) PR.length c9), .slice none 0 0] : Array Value)[j]?) ∧ (∀ j, wA.cell? ⟨w.heap.size, j, none⟩ = (#[.int .i64 0, .slice none 0 0, .slice none 0 0, .slice none 0 0, .slice none 0 0, .slice none 0 0] : Array Value)[j]?) ∧ ∀ j, wA.frozen? ⟨w.heap.size, j, none⟩ = false from fun wA hbA => by
      have q1 := (hbA.block _ (lt_of_block (w := W.drew) CW)).trans CW
      have q2 := (hbA.block _ (lt_of_block (w := W.drew) ZW)).trans ZW
      exact ⟨fun j => cell_of_cells q1 j, fun j => cell_of_cells q2 j, fun j => free_of_cells q2 j⟩)
    have ccd : ∀ j, W.drew.cell? ⟨w5.heap.size, j, none⟩ = (#[.int .i64 5, (Value.slice (some ⟨g3, 0, none⟩) n c3), (Value.slice (some ⟨g4, 0, none⟩) n1 c4), (Value.slice (some ⟨g5, 0, none⟩) n2 c5), (Value.slice (some ⟨g9, 0, none⟩) PR.length c9), .slice none 0 0] : Array Value)[j]? := fun j => cell_of_cells (w := W.drew) CW j
    have fdd : ∀ j, W.drew.frozen? ⟨w.heap.size, j, none⟩ = false := fun j => free_of_cells (w := W.drew) ZW j
    obtain ⟨z0, z1, z2, z3, z4, z5⟩ := sixC ZW
    have y0 := free_of_cells ZW 0; have y1 := free_of_cells ZW 1; have y2 := free_of_cells ZW 2; have y3 := free_of_cells ZW 3; have y4 := free_of_cells ZW 4; have y5 := free_of_cells ZW 5
    obtain ⟨x0, x1, x2, x3, x4, x5⟩ := sixC CW
    clear ccd fdd
    have HZW := Lib.hid ZW
    have HOW := Lib.hid OW; have HBW := Lib.hid BW
    clear OW BW CW ZW
    go_region
    go_wp2_with fail
    have ddA : ∀ j, W.cell? ⟨w.heap.size, j, none⟩ = (#[.int .i64 0, .slice none 0 0, .slice none 0 0, .slice none 0 0, .slice none 0 0, .slice none 0 0] : Array Value)[j]? := fun j => cell_of_cells HZW.out j
    refine bodyPost_ret (v := .tuple #[.agg #[.int .i64 5, (Value.slice (some ⟨g3, 0, none⟩) n c3), (Value.slice (some ⟨g4, 0, none⟩) n1 c4), (Value.slice (some ⟨g5, 0, none⟩) n2 c5), (Value.slice (some ⟨g9, 0, none⟩) PR.length c9), .slice none 0 0], .bool (decide (0 < PR.length))]) (by simp [results, Tryz.results36, go_sem, ddA]) rfl ?_
    have hszW := HOW.out.size
    clear z0 z1 z2 z3 z4 z5 y0 y1 y2 y3 y4 y5 x0 x1 x2 x3 x4 x5
    rw [E1.out, E2.out]
    exact MadeC.fin (wm := W) HBW.out hE1 hE2 hE3 (E4 := w9.heap.size) (by omega) (by omega) (A1.out.only HOW.out (.inl (by omega))) (A2.out.only HOW.out (.inl (by omega))) (A3.out.only HOW.out (.inl (by omega))) (A4.out.only HOW.out (.inr (by omega))) (.inl ⟨rfl, rfl⟩) (Only.refl w5.heap.size (w5.heap.size + 1) _) (Only.drewN (only_six W w.heap.size _ _ _ _ _ _) 1)
  by_cases h6 : kd = 6
  · subst h6
    have e1 : X = ⟨6, c, a, b, [], []⟩ := by rw [hmk, if_pos (by omega)]; show (⟨6, c, a, b, proofC 6 c a b, rootsC 6 c a⟩ : ClaimD) = _; simp [proofC, rootsC]
    have e2 : O = coversB c a := hok
    have KK := Lib.hid (kV.out hA)
    have E1 := Lib.hid e1; have E2 := Lib.hid e2
    clear e1 e2 hmk hok Hsa kR kS kP kU kB kN1 kN2 kN3 kW kV hA hB h1 h2 h3 h4 h5
    go_wp2_with fail
    have CW := C8.out
    have ZW := Z8.out
    have OW : Only w5.heap.size (w5.heap.size + 1) w8 w8 := Only.refl _ _ _
    have BW := hB8
    generalize w8 = W at *
    have BDW := Lib.hid (show Below w.heap.size w W.drew from Below.drew BW)
    have DW := Lib.hid (show ∀ wA, Below W.drew.heap.size W.drew wA → (∀ j, wA.cell? ⟨w5.heap.size, j, none⟩ = (#[.int .i64 6, (Value.slice (some ⟨g3, 0, none⟩) n c3), (Value.slice (some ⟨g4, 0, none⟩) n1 c4), (Value.slice (some ⟨g5, 0, none⟩) n2 c5), .slice none 0 0, .slice none 0 0] : Array Value)[j]?) ∧ (∀ j, wA.cell? ⟨w.heap.size, j, none⟩ = (#[.int .i64 0, .slice none 0 0, .slice none 0 0, .slice none 0 0, .slice none 0 0, .slice none 0 0] : Array Value)[j]?) ∧ ∀ j, wA.frozen? ⟨w.heap.size, j, none⟩ = false from fun wA hbA => by
      have q1 := (hbA.block _ (lt_of_block (w := W.drew) CW)).trans CW
      have q2 := (hbA.block _ (lt_of_block (w := W.drew) ZW)).trans ZW
      exact ⟨fun j => cell_of_cells q1 j, fun j => cell_of_cells q2 j, fun j => free_of_cells q2 j⟩)
    have ccd : ∀ j, W.drew.cell? ⟨w5.heap.size, j, none⟩ = (#[.int .i64 6, (Value.slice (some ⟨g3, 0, none⟩) n c3), (Value.slice (some ⟨g4, 0, none⟩) n1 c4), (Value.slice (some ⟨g5, 0, none⟩) n2 c5), .slice none 0 0, .slice none 0 0] : Array Value)[j]? := fun j => cell_of_cells (w := W.drew) CW j
    have fdd : ∀ j, W.drew.frozen? ⟨w.heap.size, j, none⟩ = false := fun j => free_of_cells (w := W.drew) ZW j
    have HOW := Lib.hid OW; have HBW := Lib.hid BW
    clear OW BW CW ZW
    go_region_with (go_at_call 16; refine (KK.out _ BDW.out).mono ?_; rintro e wA ⟨rfl, hbA⟩; obtain ⟨ccA, ddA, fdA⟩ := DW.out wA hbA)
    all_goals
      go_wp2_with fail
      refine bodyPost_ret (v := .tuple #[.agg #[.int .i64 6, (Value.slice (some ⟨g3, 0, none⟩) n c3), (Value.slice (some ⟨g4, 0, none⟩) n1 c4), (Value.slice (some ⟨g5, 0, none⟩) n2 c5), .slice none 0 0, .slice none 0 0], .bool (coversB c a)]) (by simp [results, Tryz.results36, go_sem, ddA]) rfl ?_
      have hbW : Below W.heap.size W wA := (Below.drew (Below.refl _ W)).trans hbA
      have hszW := HOW.out.size
      have hszA := hbW.size
      clear ccA ddA fdA ccd fdd
      rw [E1.out, E2.out]
      exact MadeC.fin (HBW.out.trans (hbW.mono HBW.out.size)) hE1 hE2 hE3 (E4 := W.heap.size) (by omega) (by omega) ((A1.out.only HOW.out (.inl (by omega))).keep hbW) ((A2.out.only HOW.out (.inl (by omega))).keep hbW) ((A3.out.only HOW.out (.inl (by omega))).keep hbW) (.inl ⟨rfl, rfl⟩) (.inl ⟨rfl, rfl⟩) (Only.refl w5.heap.size (w5.heap.size + 1) _) (only_six _ w.heap.size _ _ _ _ _ _)
  have e2 : O = false := by rw [hok]; unfold okC; rw [if_neg h1, if_neg h2, if_neg h3, if_neg h4, if_neg h5, if_neg h6]
  have e1 : X = zeroC := by rw [hmk, if_neg (by omega)]
  have E1 := Lib.hid e1; have E2 := Lib.hid e2
  have d1 : (kd == 1) = false := by simpa using h1
  have d2 : (kd == 2) = false := by simpa using h2
  have d3 : (kd == 3) = false := by simpa using h3
  have d4 : (kd == 4) = false := by simpa using h4
  have d5 : (kd == 5) = false := by simpa using h5
  have d6 : (kd == 6) = false := by simpa using h6
  clear e1 e2 hmk hok Hsa kR kS kP kU kB kN1 kN2 kN3 kW kV hA hB
  have cc : ∀ j, w8.cell? ⟨w5.heap.size, j, none⟩ = (#[.int .i64 kd, (Value.slice (some ⟨g3, 0, none⟩) n c3), (Value.slice (some ⟨g4, 0, none⟩) n1 c4), (Value.slice (some ⟨g5, 0, none⟩) n2 c5), .slice none 0 0, .slice none 0 0] : Array Value)[j]? := fun j => cell_of_cells C8.out j
  have fc : ∀ j, w8.frozen? ⟨w5.heap.size, j, none⟩ = false := fun j => free_of_cells C8.out j
  have dd : ∀ j, w8.cell? ⟨w.heap.size, j, none⟩ = (#[.int .i64 0, .slice none 0 0, .slice none 0 0, .slice none 0 0, .slice none 0 0, .slice none 0 0] : Array Value)[j]? := fun j => cell_of_cells Z8.out j
  have fd : ∀ j, w8.frozen? ⟨w.heap.size, j, none⟩ = false := fun j => free_of_cells Z8.out j
  go_wp2_with fail
  refine bodyPost_ret (v := .tuple #[zeroV, .bool false]) (by simp [results, Tryz.results36, go_sem, dd, zeroV]) rfl ?_
  clear cc fc dd fd
  rw [E1.out, E2.out]
  refine MadeC.zero (Below.only hB8 (only_six _ w.heap.size _ _ _ _ _ _) (Nat.le_refl _) (Nat.le_refl _))
end Go.Proofs.YtkjglfafphffiaaGreatDoor
