/- Mk -/
import Derived.Test.YtkjglfafphffiaaGreatDoorC31
import Derived.Test.YtkjglfafphffiaaGreatDoorC32
import Derived.Laws.ResultCell
namespace Go.Proofs.YtkjglfafphffiaaGreatDoor
set_option maxRecDepth 100000
open Go.RowKit Game
def proofC (kd : Int) (c : List (List Int)) (a b : List Int) : List Int :=
  if kd = 2 then (pathA c a b).getD [] else if kd = 3 then (if bruB c a b = true then subL c a b else []) else if kd = 4 then dropL c (nfI c b) (nfI c a) else if kd = 5 then witness c else []
def rootsC (kd : Int) (c : List (List Int)) (a : List Int) : List (List Int) := if kd = 1 then seqA c a else []
def okC (kd : Int) (c : List (List Int)) (a b : List Int) : Bool :=
  if kd = 1 then redW c a else if kd = 2 then (pathA c a b).isSome else if kd = 3 then bruB c a b else if kd = 4 then !bruB c a b else if kd = 5 then !finB c else if kd = 6 then coversB c a else false
def okM (kd : Int) (c : List (List Int)) (a b : List Int) : Bool := (isWordB c a && isWordB c b) && okC kd c a b
def zeroC : ClaimD := ⟨0, [], [], [], [], []⟩
def rawC (kd : Int) (c : List (List Int)) (a b : List Int) : ClaimD := ⟨kd, c, a, b, proofC kd c a b, rootsC kd c a⟩
def makeC (kd : Int) (c : List (List Int)) (a b : List Int) : ClaimD := if okM kd c a b = true then rawC kd c a b else zeroC
def NN (kd : Int) (v : Value) : Prop := ∃ v0 v1 v2 v3 v4 v5, v = .agg #[v0, v1, v2, v3, v4, v5] ∧ (1 ≤ kd → (∃ g n c, v1 = (Value.slice (some ⟨g, 0, none⟩) n c)) ∧ (∃ g n c, v2 = (Value.slice (some ⟨g, 0, none⟩) n c)) ∧ ∃ g n c, v3 = (Value.slice (some ⟨g, 0, none⟩) n c)) ∧
  (2 ≤ kd → kd ≤ 5 → ∃ g n c, v4 = (Value.slice (some ⟨g, 0, none⟩) n c)) ∧ (kd = 1 → ∃ g n c, v5 = (Value.slice (some ⟨g, 0, none⟩) n c)) ∧ (kd = 0 → v = .agg #[.int .i64 0, .slice none 0 0, .slice none 0 0, .slice none 0 0, .slice none 0 0, .slice none 0 0])
def MadeC (w : World) (x : ClaimD) (ok : Bool) (e : Ending) (w' : World) : Prop :=
  ∃ v, e = .returned (.tuple #[v, .bool ok]) ∧ HeldC w' w.heap.size w'.heap.size v x ∧ Below w.heap.size w w' ∧ NN x.kind v
def zeroV : Value := .agg #[.int .i64 0, .slice none 0 0, .slice none 0 0, .slice none 0 0, .slice none 0 0, .slice none 0 0]
theorem held_zero (w : World) (B E : Nat) (h : B ≤ E) : HeldC w B E zeroV zeroC :=
  ⟨_, _, _, _, _, B, B, B, B, rfl, by omega, .inl ⟨rfl, rfl⟩, .inl ⟨rfl, rfl⟩, .inl ⟨rfl, rfl⟩, .inl ⟨rfl, rfl⟩, .inl ⟨rfl, rfl⟩⟩
theorem MadeC.zero {w w' : World} {ok : Bool} (h : Below w.heap.size w w') : MadeC w zeroC ok (.returned (.tuple #[zeroV, .bool ok])) w' :=
  ⟨_, rfl, held_zero _ _ _ h.size, h, _, _, _, _, _, _, rfl, fun h => absurd h (by decide), fun h => absurd h (by decide), fun h => absurd h (by decide), fun _ => rfl⟩
theorem only_set (w : World) (p : Addr) (u : Value) {B E : Nat} (h1 : B ≤ p.block) (h2 : p.block < E) : Only B E w (w.setCell p u) :=
  ⟨rfl, rfl, rfl, by simp [World.setCell], fun k _ hd => Below.heap_setCell _ _ _ _ (by omega)⟩
theorem Own.mayI {w : World} {B E g cap n : Nat} {xs : List Int} (h : Own w B g cap xs) (hn : xs.length = n) (hE : w.heap.size ≤ E) : MayI w B E (Value.slice (some ⟨g, 0, none⟩) n cap) xs :=
  .inr ⟨g, cap, by rw [hn], h, Nat.lt_of_lt_of_le h.lt hE⟩
theorem OwnRows.mayR {w : World} {B E g cap n : Nat} {rs : List RowRef} {rows : List (List Int)} (h : OwnRows w B g cap rs) (hc : contents rs = rows) (hn : rows.length = n) (hE : w.heap.size ≤ E) : MayR w B E (Value.slice (some ⟨g, 0, none⟩) n cap) rows :=
  .inr ⟨g, cap, by rw [hn], rs, hc, h, Nat.lt_of_lt_of_le h.lt hE, fun r hr => Nat.lt_of_lt_of_le (h.2.1 r hr).lt hE⟩
theorem MayI.wide {w : World} {B E B2 E2 : Nat} {v : Value} {xs : List Int} (h : MayI w B E v xs) (h1 : B2 ≤ B) (h2 : E ≤ E2) : MayI w B2 E2 v xs := by
  rcases h with h | ⟨g, cap, e, ho, hE⟩
  · exact .inl h
  · exact .inr ⟨g, cap, e, ho.mono h1, Nat.lt_of_lt_of_le hE h2⟩
theorem MayR.wide {w : World} {B E B2 E2 : Nat} {v : Value} {rows : List (List Int)} (h : MayR w B E v rows) (h1 : B2 ≤ B) (h2 : E ≤ E2) : MayR w B2 E2 v rows := by
  rcases h with h | ⟨g, cap, e, rs, hc, ho, hE, hr⟩
  · exact .inl h
  · exact .inr ⟨g, cap, e, rs, hc, ho.mono h1, Nat.lt_of_lt_of_le hE h2, fun r hr' => Nat.lt_of_lt_of_le (hr r hr') h2⟩
theorem only_six (w : World) (b : Nat) (u0 u1 u2 u3 u4 u5 : Value) : Only b (b + 1) w ((((((w.setCell ⟨b, 0, none⟩ u0).setCell ⟨b, 1, none⟩ u1).setCell ⟨b, 2, none⟩ u2).setCell ⟨b, 3, none⟩ u3).setCell ⟨b, 4, none⟩ u4).setCell ⟨b, 5, none⟩ u5) := by
  have h : ∀ (W : World) (k : Nat) (u : Value), Only b (b + 1) W (W.setCell ⟨b, k, none⟩ u) := fun W k u => only_set W _ u (Nat.le_refl b) (Nat.lt_succ_self b)
  exact (((((h _ 0 u0).trans (h _ 1 u1)).trans (h _ 2 u2)).trans (h _ 3 u3)).trans (h _ 4 u4)).trans (h _ 5 u5)
theorem MadeC.fin {w w8 wm W' : World} {b5 E1 E2 E4 : Nat} {kd : Int} {v1 v2 v3 v4 v5 : Value} {c ro : List (List Int)} {a b pr : List Int} (hB : Below w.heap.size w w8) (hw : w.heap.size + 1 ≤ E1) (h12 : E1 ≤ E2) (h23 : E2 ≤ b5) (h4 : b5 + 1 ≤ E4) (h48 : E4 ≤ w8.heap.size)
    (A1 : MayR w8 (w.heap.size + 1) E1 v1 c) (A2 : MayI w8 E1 E2 v2 a) (A3 : MayI w8 E2 b5 v3 b) (A4 : MayI w8 (b5 + 1) E4 v4 pr) (A5 : MayR w8 E4 w8.heap.size v5 ro)
    (hO1 : Only b5 (b5 + 1) w8 wm) (hO2 : Only w.heap.size (w.heap.size + 1) wm W') {ok : Bool}
    (hnn : NN kd (.agg #[.int .i64 kd, v1, v2, v3, v4, v5]) := by exact ⟨_, _, _, _, _, _, rfl, fun _ => ⟨⟨_, _, _, rfl⟩, ⟨_, _, _, rfl⟩, ⟨_, _, _, rfl⟩⟩, fun h1 h2 => (by first | exact ⟨_, _, _, rfl⟩ | (exfalso; omega)), fun h => (by first | exact ⟨_, _, _, rfl⟩ | (exfalso; omega)), fun h => (by exfalso; omega)⟩) : MadeC w ⟨kd, c, a, b, pr, ro⟩ ok (.returned (.tuple #[.agg #[.int .i64 kd, v1, v2, v3, v4, v5], .bool ok])) W' := by
  have hs := Nat.le_trans hO1.size hO2.size
  refine ⟨_, rfl, ⟨v1, v2, v3, v4, v5, E1, E2, b5, E4, rfl, ⟨by omega, by omega, by omega, by omega, by omega⟩, ?_, ?_, ?_, ?_, ?_⟩, ?_, hnn⟩
  · exact ((A1.only hO1 (.inl (by omega))).only hO2 (.inr (by omega))).wide (by omega) (by omega)
  · exact ((A2.only hO1 (.inl (by omega))).only hO2 (.inr (by omega))).wide (by omega) (by omega)
  · exact ((A3.only hO1 (.inl (by omega))).only hO2 (.inr (by omega))).wide (by omega) (by omega)
  · exact ((A4.only hO1 (.inr (by omega))).only hO2 (.inr (by omega))).wide (by omega) (by omega)
  · exact ((A5.only hO1 (.inr (by omega))).only hO2 (.inr (by omega))).wide (by omega) (by omega)
  · have hz := hB.size
    exact Below.only (Below.only hB hO1 (by omega) (Nat.le_refl _)) hO2 (Nat.le_refl _) (Nat.le_refl _)
set_option maxHeartbeats 1000000 in
theorem impl_MakeClaim_any (kd : Int) (gc oc n cc g1 o1 n1 c1 g2 o2 n2 c2 : Nat) (c : List (List Int)) (a b : List Int) (w : World) (hn : c.length = n) (hn1 : a.length = n1) (hn2 : b.length = n2)
    (hx : c.length ≤ 1048576) (hrl : ∀ j, j < c.length → (c.getD j []).length ≤ 1048576) (hla : a.length ≤ 1048576) (hlb : b.length ≤ 1048576) (hcap1 : n1 ≤ c1) (_hcap2 : n2 ≤ c2) (hgc : gc < w.heap.size) (hg1 : g1 < w.heap.size) (hg2 : g2 < w.heap.size)
    (hr : Rows2 w gc oc c) (h1 : Cells w g1 o1 a) (h2 : Cells w g2 o2 b) :
    Calls Tryz.prog 6 #[.int .i64 kd, (Value.slice (some ⟨gc, oc, none⟩) n cc), (Value.slice (some ⟨g1, o1, none⟩) n1 c1), (Value.slice (some ⟨g2, o2, none⟩) n2 c2)] w (MadeC w (makeC kd c a b) (okM kd c a b)) := by
  have k1 := fun (W : World) (hb : Below w.heap.size w W) => impl_IsWord_any gc oc n cc g1 o1 n1 c1 c a W hn hn1 hx hrl hla (hr.below hb hgc) (h1.below hb hg1)
  have k2 := fun (W : World) (hb : Below w.heap.size w W) => impl_IsWord_any gc oc n cc g2 o2 n2 c2 c b W hn hn2 hx hrl hlb (hr.below hb hgc) (h2.below hb hg2)
  have Z0 := Lib.hid (heap_alloc_new w (.cells #[.int .i64 0, .slice none 0 0, .slice none 0 0, .slice none 0 0, .slice none 0 0, .slice none 0 0] 29 (0, 0)))
  have hB0 : Below w.heap.size w (w.alloc (.cells #[.int .i64 0, .slice none 0 0, .slice none 0 0, .slice none 0 0, .slice none 0 0, .slice none 0 0] 29)) := (Below.refl _ _).alloc (Nat.le_refl _) _
  cases hwa : isWordB c a with
  | false =>
    rw [hwa] at k1
    have hok : okM kd c a b = false := by unfold okM; rw [hwa]; rfl
    have hmk : makeC kd c a b = zeroC := by unfold makeC; rw [hok]; rfl
    rw [hok, hmk]
    have k1 := Lib.hid k1
    clear hok hmk hwa k2 hr h1 h2
    go_enter Tryz.func6, Tryz.ntmps6
    go_wp2_with fail
    refine (k1.out _ hB0).mono ?_
    rintro e w1 ⟨rfl, hs1⟩
    have hB1 := below_still hB0 hs1
    have Z1 := Lib.hid (show w1.heap[w.heap.size]? = some (.cells #[.int .i64 0, .slice none 0 0, .slice none 0 0, .slice none 0 0, .slice none 0 0, .slice none 0 0] 29 (0, 0)) from (by obtain ⟨q, rfl⟩ := hs1; exact Z0.out))
    have dd : ∀ j, w1.cell? ⟨w.heap.size, j, none⟩ = (#[.int .i64 0, .slice none 0 0, .slice none 0 0, .slice none 0 0, .slice none 0 0, .slice none 0 0] : Array Value)[j]? := fun j => cell_of_cells Z1.out j
    have fd : ∀ j, w1.frozen? ⟨w.heap.size, j, none⟩ = false := fun j => free_of_cells Z1.out j
    clear hB0 hs1 Z0
    go_wp2_with fail
    refine bodyPost_ret (v := .tuple #[zeroV, .bool false]) (by simp [results, Tryz.results6, go_sem, dd, zeroV]) rfl (MadeC.zero ?_)
    clear dd fd
    iterate 6 (refine Below.setCell ?_ (by exact Nat.le_refl _) _)
    exact hB1
  | true =>
  rw [hwa] at k1
  have k1 := Lib.hid k1
  cases hwb : isWordB c b with
  | false =>
    rw [hwb] at k2
    have hok : okM kd c a b = false := by unfold okM; rw [hwb, Bool.and_false]; rfl
    have hmk : makeC kd c a b = zeroC := by unfold makeC; rw [hok]; rfl
    rw [hok, hmk]
    have k2 := Lib.hid k2
    clear hok hmk hwa hwb hr h1 h2
    go_enter Tryz.func6, Tryz.ntmps6
    go_wp2_with fail
    refine (k1.out _ hB0).mono ?_
    rintro e w1 ⟨rfl, hs1⟩
    have hB1 := below_still hB0 hs1
    have Z1 := Lib.hid (show w1.heap[w.heap.size]? = some (.cells #[.int .i64 0, .slice none 0 0, .slice none 0 0, .slice none 0 0, .slice none 0 0, .slice none 0 0] 29 (0, 0)) from (by obtain ⟨q, rfl⟩ := hs1; exact Z0.out))
    clear hB0 hs1 Z0
    go_wp2_with fail
    refine (k2.out _ hB1).mono ?_
    rintro e w2 ⟨rfl, hs2⟩
    have hB2 := below_still hB1 hs2
    have Z2 := Lib.hid (show w2.heap[w.heap.size]? = some (.cells #[.int .i64 0, .slice none 0 0, .slice none 0 0, .slice none 0 0, .slice none 0 0, .slice none 0 0] 29 (0, 0)) from (by obtain ⟨q, rfl⟩ := hs2; exact Z1.out))
    have dd : ∀ j, w2.cell? ⟨w.heap.size, j, none⟩ = (#[.int .i64 0, .slice none 0 0, .slice none 0 0, .slice none 0 0, .slice none 0 0, .slice none 0 0] : Array Value)[j]? := fun j => cell_of_cells Z2.out j
    have fd : ∀ j, w2.frozen? ⟨w.heap.size, j, none⟩ = false := fun j => free_of_cells Z2.out j
    clear hB1 hs2 Z1
    go_wp2_with fail
    refine bodyPost_ret (v := .tuple #[zeroV, .bool false]) (by simp [results, Tryz.results6, go_sem, dd, zeroV]) rfl (MadeC.zero ?_)
    clear dd fd
    iterate 6 (refine Below.setCell ?_ (by exact Nat.le_refl _) _)
    exact hB2
  | true =>
  rw [hwb] at k2
  have k2 := Lib.hid k2
  have hA := wordOk_of hwa
  have hB := wordOk_of hwb
  have hok : okM kd c a b = okC kd c a b := by unfold okM; rw [hwa, hwb]; rfl
  have hsa : seqA c a = seqL c a := if_pos hwa
  have kC := Lib.hid (fun (W : World) (hb : Below w.heap.size w W) => impl_copied_any gc oc n cc c W hn hx hrl (Nat.lt_of_lt_of_le hgc hb.size) (hr.below hb hgc))
  have H1 := Lib.hid (fun (W : World) (hb : Below w.heap.size w W) => h1.below hb hg1)
  have H2 := Lib.hid (fun (W : World) (hb : Below w.heap.size w W) => h2.below hb hg2)
  have kR := Lib.hid (fun (W : World) (hb : Below w.heap.size w W) => impl_IsReduced_any gc oc n cc g1 o1 n1 c1 c a W hn hn1 hx hrl hla (Nat.lt_of_lt_of_le hgc hb.size) (Nat.lt_of_lt_of_le hg1 hb.size) (hr.below hb hgc) (h1.below hb hg1))
  have kS := Lib.hid (fun (W : World) (hb : Below w.heap.size w W) => impl_RootSequence_any gc oc n cc g1 o1 n1 c1 c a W hn hn1 hx hrl hla (by omega) (Nat.lt_of_lt_of_le hgc hb.size) (Nat.lt_of_lt_of_le hg1 hb.size) (hr.below hb hgc) (h1.below hb hg1))
  have kP := Lib.hid (fun (W : World) (hb : Below w.heap.size w W) => impl_BraidPath_ok gc oc n cc g1 o1 n1 c1 g2 o2 n2 c2 c a b W hn hn1 hn2 hA hB hcap1 (Nat.lt_of_lt_of_le hgc hb.size) (Nat.lt_of_lt_of_le hg1 hb.size) (Nat.lt_of_lt_of_le hg2 hb.size) (hr.below hb hgc) (h1.below hb hg1) (h2.below hb hg2))
  have kU := Lib.hid (fun (W : World) (hb : Below w.heap.size w W) => impl_SubwordOf_ok gc oc n cc g1 o1 n1 c1 g2 o2 n2 c2 c a b W hn hn1 hn2 hA hB (Nat.lt_of_lt_of_le hgc hb.size) (Nat.lt_of_lt_of_le hg1 hb.size) (Nat.lt_of_lt_of_le hg2 hb.size) (hr.below hb hgc) (h1.below hb hg1) (h2.below hb hg2))
  have kB := Lib.hid (fun (W : World) (hb : Below w.heap.size w W) => impl_below_ok gc oc n cc g1 o1 n1 c1 g2 o2 n2 c2 c a b W hn hn1 hn2 hA hB (Nat.lt_of_lt_of_le hgc hb.size) (Nat.lt_of_lt_of_le hg1 hb.size) (Nat.lt_of_lt_of_le hg2 hb.size) (hr.below hb hgc) (h1.below hb hg1) (h2.below hb hg2))
  have kN := Lib.hid (fun (W : World) (hb : Below w.heap.size w W) => impl_notBelow_ok gc oc n cc g1 o1 n1 c1 g2 o2 n2 c2 c a b W hn hn1 hn2 hA hB (Nat.lt_of_lt_of_le hgc hb.size) (Nat.lt_of_lt_of_le hg1 hb.size) (Nat.lt_of_lt_of_le hg2 hb.size) (hr.below hb hgc) (h1.below hb hg1) (h2.below hb hg2))
  have kF := Lib.hid (fun (W : World) (hb : Below w.heap.size w W) => impl_IsFinite_any gc oc n cc c W hn hx hrl (Nat.lt_of_lt_of_le hgc hb.size) (hr.below hb hgc))
  have kW := Lib.hid (fun (W : World) (hb : Below w.heap.size w W) => impl_WitnessOf_any gc oc n cc c W hn hx hrl (Nat.lt_of_lt_of_le hgc hb.size) (hr.below hb hgc))
  have kV := Lib.hid (fun (W : World) (hb : Below w.heap.size w W) => impl_CoversAll_ok gc oc n cc g1 o1 n1 c1 c a W hn hn1 hA (Nat.lt_of_lt_of_le hgc hb.size) (Nat.lt_of_lt_of_le hg1 hb.size) (hr.below hb hgc) (h1.below hb hg1))
  have Hn := Lib.hid hn; have Hn1 := Lib.hid hn1; have Hn2 := Lib.hid hn2
  have Hok := Lib.hid hok; have Hsa := Lib.hid hsa
  clear hr h1 h2 hrl hwa hwb hA hB hok hsa hn hn1 hn2
  have hmk := Lib.hid (show makeC kd c a b = if okM kd c a b = true then rawC kd c a b else zeroC from rfl)
  generalize makeC kd c a b = X at *
  generalize hO : okM kd c a b = O at *
  go_enter Tryz.func6, Tryz.ntmps6
  go_wp2_with fail
  refine (k1.out _ hB0).mono ?_
  rintro e w1 ⟨rfl, hs1⟩
  have hB1 := below_still hB0 hs1
  have Z1 := Lib.hid (show w1.heap[w.heap.size]? = some (.cells #[.int .i64 0, .slice none 0 0, .slice none 0 0, .slice none 0 0, .slice none 0 0, .slice none 0 0] 29 (0, 0)) from (by obtain ⟨q, rfl⟩ := hs1; exact Z0.out))
  clear hB0 hs1 Z0
  go_wp2_with fail
  refine (k2.out _ hB1).mono ?_
  rintro e w2 ⟨rfl, hs2⟩
  have hB2 := below_still hB1 hs2
  have Z2 := Lib.hid (show w2.heap[w.heap.size]? = some (.cells #[.int .i64 0, .slice none 0 0, .slice none 0 0, .slice none 0 0, .slice none 0 0, .slice none 0 0] 29 (0, 0)) from (by obtain ⟨q, rfl⟩ := hs2; exact Z1.out))
  clear hB1 hs2 Z1
  go_wp2_with fail
  refine (kC.out _ hB2).mono ?_
  rintro e w3 ⟨g3, c3, rs, rfl, hcon, ho3, hb3⟩
  have hB3 := hB2.trans (hb3.mono hB2.size)
  have Z3 := Lib.hid ((hb3.block _ (lt_of_block Z2.out)).trans Z2.out)
  have hs3 : w.heap.size + 1 ≤ w2.heap.size := lt_of_block Z2.out
  have A1 := Lib.hid (show MayR w3 (w.heap.size + 1) w3.heap.size (Value.slice (some ⟨g3, 0, none⟩) n c3) c from (ho3.mono hs3).mayR hcon Hn.out (Nat.le_refl _))
  rw [Hn.out]
  clear hs3 hcon ho3 hB2 Z2
  have hg13 := Nat.lt_of_lt_of_le hg1 hB3.size
  have q1 := Lib.hid (H1.out _ hB3)
  go_wp2_with (at_builtin; refine wpList_clone rfl _ _ rfl g1 o1 _ c1 a Hn1.out hg13 q1.out rfl rfl (by omega) ?_)
  intro g4 c4 w4 ho4 hb4
  have hB4 := hB3.trans (hb4.mono hB3.size)
  have Z4 := Lib.hid ((hb4.block _ (lt_of_block Z3.out)).trans Z3.out)
  have A1 := Lib.hid (A1.out.below hb4 (Nat.le_refl _))
  have A2 := Lib.hid (show MayI w4 w3.heap.size w4.heap.size (Value.slice (some ⟨g4, 0, none⟩) n1 c4) a from ho4.mayI Hn1.out (Nat.le_refl _))
  have hE1 : w.heap.size + 1 ≤ w3.heap.size := lt_of_block Z3.out
  clear ho4 hB3 Z3 q1 hg13
  have hg24 := Nat.lt_of_lt_of_le hg2 hB4.size
  have q2 := Lib.hid (H2.out _ hB4)
  go_wp2_with (at_builtin; refine wpList_clone rfl _ _ rfl g2 o2 _ c2 b Hn2.out hg24 q2.out rfl rfl (by omega) ?_)
  intro g5 c5 w5 ho5 hb5
  have hB5 := hB4.trans (hb5.mono hB4.size)
  have Z5 := Lib.hid ((hb5.block _ (lt_of_block Z4.out)).trans Z4.out)
  have A1 := Lib.hid (A1.out.below hb5 hb4.size)
  have A2 := Lib.hid (A2.out.below hb5 (Nat.le_refl _))
  have A3 := Lib.hid (show MayI w5 w4.heap.size w5.heap.size (Value.slice (some ⟨g5, 0, none⟩) n2 c5) b from ho5.mayI Hn2.out (Nat.le_refl _))
  have hE2 := hb4.size; have hE3 := hb5.size
  clear ho5 hB4 Z4 q2 hg24 hb4 hb5 hb3
  by_cases h1 : kd = 1
  · subst h1
    have HP : Hid (rawC 1 c a b = ⟨1, c, a, b, [], seqL c a⟩) := Lib.hid (by show (⟨1, c, a, b, proofC 1 c a b, rootsC 1 c a⟩ : ClaimD) = _; simp [proofC, rootsC, Hsa.out])
    have hr : O = redW c a := Hok.out
    have Hmk := Lib.hid hmk.out
    have Hql := Lib.hid (show (seqL c a).length = a.length by simp [seqL])
    have kS1 := kS.out; rw [Hsa.out] at kS1; have KS := Lib.hid kS1
    have kR1 := kR.out; rw [← hr] at kR1; have KR := Lib.hid kR1
    clear kS kR kS1 kR1
    clear hr hmk Hok hO Hsa kB kF kN kP kU kV kW kC H1 H2 k1 k2
    have hb6 : Below w5.heap.size w5 (w5.alloc (.cells #[.int .i64 1, (Value.slice (some ⟨g3, 0, none⟩) n c3), (Value.slice (some ⟨g4, 0, none⟩) n1 c4), (Value.slice (some ⟨g5, 0, none⟩) n2 c5), .slice none 0 0, .slice none 0 0] 29)) := (Below.refl _ _).alloc (Nat.le_refl _) _
    obtain ⟨w6, hw6⟩ : ∃ W, W = w5.alloc (.cells #[.int .i64 1, (Value.slice (some ⟨g3, 0, none⟩) n c3), (Value.slice (some ⟨g4, 0, none⟩) n1 c4), (Value.slice (some ⟨g5, 0, none⟩) n2 c5), .slice none 0 0, .slice none 0 0] 29) := ⟨_, rfl⟩
    have C6 := Lib.hid (heap_alloc_new w5 (.cells #[.int .i64 1, (Value.slice (some ⟨g3, 0, none⟩) n c3), (Value.slice (some ⟨g4, 0, none⟩) n1 c4), (Value.slice (some ⟨g5, 0, none⟩) n2 c5), .slice none 0 0, .slice none 0 0] 29 (0, 0)))
    rw [← hw6] at hb6
    have C6 : Hid (w6.heap[w5.heap.size]? = some (.cells #[.int .i64 1, (Value.slice (some ⟨g3, 0, none⟩) n c3), (Value.slice (some ⟨g4, 0, none⟩) n1 c4), (Value.slice (some ⟨g5, 0, none⟩) n2 c5), .slice none 0 0, .slice none 0 0] 29 (0, 0))) := by rw [hw6]; exact C6.out
    have hB6 := hB5.trans (hb6.mono hB5.size)
    have Z6 := Lib.hid ((hb6.block _ (lt_of_block Z5.out)).trans Z5.out)
    have A1 := Lib.hid (A1.out.keep hb6); have A2 := Lib.hid (A2.out.keep hb6); have A3 := Lib.hid (A3.out.keep hb6)
    have hsz6 : w5.heap.size + 1 ≤ w6.heap.size := lt_of_block C6.out
    clear hb6
    go_wp2_with fail
    rw [← hw6]
    clear hw6
    refine (KR.out _ hB6).mono ?_
    rintro e w7 ⟨rfl, hb7⟩
    have hB7 := hB6.trans (hb7.mono hB6.size)
    have Z7 := Lib.hid ((hb7.block _ (lt_of_block Z6.out)).trans Z6.out)
    have C7 := Lib.hid ((hb7.block _ (lt_of_block C6.out)).trans C6.out)
    have A1 := Lib.hid (A1.out.keep hb7); have A2 := Lib.hid (A2.out.keep hb7); have A3 := Lib.hid (A3.out.keep hb7)
    have hsz7 := Nat.le_trans hsz6 hb7.size
    clear hb7 Z6 C6 hB6
    go_wp2_with fail
    refine (KS.out _ hB7).mono ?_
    rintro e w8 ⟨g8, c8, rs8, rfl, hcon8, ho8, hb8⟩
    have hB8 := hB7.trans (hb8.mono hB7.size)
    have Z8 := Lib.hid ((hb8.block _ (lt_of_block Z7.out)).trans Z7.out)
    have C8 := Lib.hid ((hb8.block _ (lt_of_block C7.out)).trans C7.out)
    have A1 := Lib.hid (A1.out.keep hb8); have A2 := Lib.hid (A2.out.keep hb8); have A3 := Lib.hid (A3.out.keep hb8)
    have hsz8 := Nat.le_trans hsz7 hb8.size
    have A5 := Lib.hid (show MayR w8 w7.heap.size w8.heap.size (Value.slice (some ⟨g8, 0, none⟩) n1 c8) (seqL c a) from ho8.mayR hcon8 (by rw [Hql.out, Hn1.out]) (Nat.le_refl _))
    rw [Hql.out, Hn1.out]
    have hsz78 := hb8.size
    have cc : ∀ j, w8.cell? ⟨w5.heap.size, j, none⟩ = (#[.int .i64 1, (Value.slice (some ⟨g3, 0, none⟩) n c3), (Value.slice (some ⟨g4, 0, none⟩) n1 c4), (Value.slice (some ⟨g5, 0, none⟩) n2 c5), .slice none 0 0, .slice none 0 0] : Array Value)[j]? := fun j => cell_of_cells C8.out j
    have fc : ∀ j, w8.frozen? ⟨w5.heap.size, j, none⟩ = false := fun j => free_of_cells C8.out j
    have dd : ∀ j, w8.cell? ⟨w.heap.size, j, none⟩ = (#[.int .i64 0, .slice none 0 0, .slice none 0 0, .slice none 0 0, .slice none 0 0, .slice none 0 0] : Array Value)[j]? := fun j => cell_of_cells Z8.out j
    have fd : ∀ j, w8.frozen? ⟨w.heap.size, j, none⟩ = false := fun j => free_of_cells Z8.out j
    clear hb8 hcon8 ho8 Z7 C7 hB7
    cases O with
    | false =>
      have e1 : X = zeroC := Hmk.out
      go_wp2_with fail
      refine bodyPost_ret (v := .tuple #[zeroV, .bool false]) (by simp [results, Tryz.results6, go_sem, dd, zeroV]) rfl ?_
      clear cc fc dd fd
      rw [e1]
      refine MadeC.zero (Below.only (Below.only hB8 (only_set _ ⟨w5.heap.size, 5, none⟩ _ (Nat.le_refl _) (Nat.lt_succ_self _)) (by have := hB5.size; omega) (Nat.le_refl _)) (only_six _ w.heap.size _ _ _ _ _ _) (Nat.le_refl _) (Nat.le_refl _))
    | true =>
      have e1 : X = ⟨1, c, a, b, [], seqL c a⟩ := Hmk.out.trans HP.out
      go_wp2_with fail
      refine bodyPost_ret (v := .tuple #[.agg #[.int .i64 1, (Value.slice (some ⟨g3, 0, none⟩) n c3), (Value.slice (some ⟨g4, 0, none⟩) n1 c4), (Value.slice (some ⟨g5, 0, none⟩) n2 c5), .slice none 0 0, (Value.slice (some ⟨g8, 0, none⟩) n1 c8)], .bool true]) (by simp [results, Tryz.results6, go_sem, dd]) rfl ?_
      clear cc fc dd fd
      rw [e1]
      exact MadeC.fin hB8 hE1 hE2 hE3 (E4 := w7.heap.size) (by omega) (by omega) A1.out A2.out A3.out (.inl ⟨rfl, rfl⟩) A5.out (only_set _ ⟨w5.heap.size, 5, none⟩ _ (Nat.le_refl _) (Nat.lt_succ_self _)) (only_six _ w.heap.size _ _ _ _ _ _)
  by_cases h2 : kd = 2
  · subst h2
    have HP : Hid (rawC 2 c a b = ⟨2, c, a, b, (pathA c a b).getD [], []⟩) := Lib.hid (by show (⟨2, c, a, b, proofC 2 c a b, rootsC 2 c a⟩ : ClaimD) = _; simp [proofC, rootsC])
    have hr : O = (pathA c a b).isSome := Hok.out
    have Hmk := Lib.hid hmk.out
    have kk := kP.out
    generalize (pathA c a b).getD [] = PR at *
    rw [← hr] at kk
    have KK := Lib.hid kk
    clear kk kP h1
    clear hr hmk Hok hO Hsa kB kF kN kR kS kU kV kW kC H1 H2 k1 k2
    have hb6 : Below w5.heap.size w5 (w5.alloc (.cells #[.int .i64 2, (Value.slice (some ⟨g3, 0, none⟩) n c3), (Value.slice (some ⟨g4, 0, none⟩) n1 c4), (Value.slice (some ⟨g5, 0, none⟩) n2 c5), .slice none 0 0, .slice none 0 0] 29)) := (Below.refl _ _).alloc (Nat.le_refl _) _
    obtain ⟨w6, hw6⟩ : ∃ W, W = w5.alloc (.cells #[.int .i64 2, (Value.slice (some ⟨g3, 0, none⟩) n c3), (Value.slice (some ⟨g4, 0, none⟩) n1 c4), (Value.slice (some ⟨g5, 0, none⟩) n2 c5), .slice none 0 0, .slice none 0 0] 29) := ⟨_, rfl⟩
    have C6 := Lib.hid (heap_alloc_new w5 (.cells #[.int .i64 2, (Value.slice (some ⟨g3, 0, none⟩) n c3), (Value.slice (some ⟨g4, 0, none⟩) n1 c4), (Value.slice (some ⟨g5, 0, none⟩) n2 c5), .slice none 0 0, .slice none 0 0] 29 (0, 0)))
    rw [← hw6] at hb6
    have C6 : Hid (w6.heap[w5.heap.size]? = some (.cells #[.int .i64 2, (Value.slice (some ⟨g3, 0, none⟩) n c3), (Value.slice (some ⟨g4, 0, none⟩) n1 c4), (Value.slice (some ⟨g5, 0, none⟩) n2 c5), .slice none 0 0, .slice none 0 0] 29 (0, 0))) := by rw [hw6]; exact C6.out
    have hB6 := hB5.trans (hb6.mono hB5.size)
    have Z6 := Lib.hid ((hb6.block _ (lt_of_block Z5.out)).trans Z5.out)
    have A1 := Lib.hid (A1.out.keep hb6); have A2 := Lib.hid (A2.out.keep hb6); have A3 := Lib.hid (A3.out.keep hb6)
    have hsz6 : w5.heap.size + 1 ≤ w6.heap.size := lt_of_block C6.out
    clear hb6
    go_wp2_with fail
    rw [← hw6]
    clear hw6
    refine (KK.out _ hB6).mono ?_
    rintro e w7 ⟨g7, c7, rfl, ho7, hb7⟩
    have hB7 := hB6.trans (hb7.mono hB6.size)
    have Z7 := Lib.hid ((hb7.block _ (lt_of_block Z6.out)).trans Z6.out)
    have C7 := Lib.hid ((hb7.block _ (lt_of_block C6.out)).trans C6.out)
    have A1 := Lib.hid (A1.out.keep hb7); have A2 := Lib.hid (A2.out.keep hb7); have A3 := Lib.hid (A3.out.keep hb7)
    have hsz7 := Nat.le_trans hsz6 hb7.size
    have A4 := Lib.hid (show MayI w7 (w5.heap.size + 1) w7.heap.size (Value.slice (some ⟨g7, 0, none⟩) PR.length c7) PR from (ho7.mayI rfl (Nat.le_refl _)).wide hsz6 (Nat.le_refl _))
    have cc : ∀ j, w7.cell? ⟨w5.heap.size, j, none⟩ = (#[.int .i64 2, (Value.slice (some ⟨g3, 0, none⟩) n c3), (Value.slice (some ⟨g4, 0, none⟩) n1 c4), (Value.slice (some ⟨g5, 0, none⟩) n2 c5), .slice none 0 0, .slice none 0 0] : Array Value)[j]? := fun j => cell_of_cells C7.out j
    have fc : ∀ j, w7.frozen? ⟨w5.heap.size, j, none⟩ = false := fun j => free_of_cells C7.out j
    have dd : ∀ j, w7.cell? ⟨w.heap.size, j, none⟩ = (#[.int .i64 0, .slice none 0 0, .slice none 0 0, .slice none 0 0, .slice none 0 0, .slice none 0 0] : Array Value)[j]? := fun j => cell_of_cells Z7.out j
    have fd : ∀ j, w7.frozen? ⟨w.heap.size, j, none⟩ = false := fun j => free_of_cells Z7.out j
    clear hb7 ho7 Z6 C6 hB6
    cases O with
    | false =>
      have e1 : X = zeroC := Hmk.out
      go_wp2_with fail
      refine bodyPost_ret (v := .tuple #[zeroV, .bool false]) (by simp [results, Tryz.results6, go_sem, dd, zeroV]) rfl ?_
      clear cc fc dd fd
      rw [e1]
      refine MadeC.zero (Below.only (Below.only hB7 (only_set _ ⟨w5.heap.size, 4, none⟩ _ (Nat.le_refl _) (Nat.lt_succ_self _)) (by have := hB5.size; omega) (Nat.le_refl _)) (only_six _ w.heap.size _ _ _ _ _ _) (Nat.le_refl _) (Nat.le_refl _))
    | true =>
      have e1 : X = ⟨2, c, a, b, PR, []⟩ := Hmk.out.trans HP.out
      go_wp2_with fail
      refine bodyPost_ret (v := .tuple #[.agg #[.int .i64 2, (Value.slice (some ⟨g3, 0, none⟩) n c3), (Value.slice (some ⟨g4, 0, none⟩) n1 c4), (Value.slice (some ⟨g5, 0, none⟩) n2 c5), (Value.slice (some ⟨g7, 0, none⟩) PR.length c7), .slice none 0 0], .bool true]) (by simp [results, Tryz.results6, go_sem, dd]) rfl ?_
      clear cc fc dd fd
      rw [e1]
      exact MadeC.fin hB7 hE1 hE2 hE3 (E4 := w7.heap.size) (by omega) (by omega) A1.out A2.out A3.out A4.out (.inl ⟨rfl, rfl⟩) (only_set _ ⟨w5.heap.size, 4, none⟩ _ (Nat.le_refl _) (Nat.lt_succ_self _)) (only_six _ w.heap.size _ _ _ _ _ _)
  by_cases h3 : kd = 3
  · subst h3
    have HP : Hid (rawC 3 c a b = ⟨3, c, a, b, (if bruB c a b = true then subL c a b else []), []⟩) := Lib.hid (by show (⟨3, c, a, b, proofC 3 c a b, rootsC 3 c a⟩ : ClaimD) = _; simp [proofC, rootsC])
    have hr : O = bruB c a b := Hok.out
    have Hmk := Lib.hid hmk.out
    have kk := kU.out
    generalize (if bruB c a b = true then subL c a b else []) = PR at *
    rw [← hr] at kk
    have KK := Lib.hid kk
    clear kk kU h1 h2
    clear hr hmk Hok hO Hsa kB kF kN kP kR kS kV kW kC H1 H2 k1 k2
    have hb6 : Below w5.heap.size w5 (w5.alloc (.cells #[.int .i64 3, (Value.slice (some ⟨g3, 0, none⟩) n c3), (Value.slice (some ⟨g4, 0, none⟩) n1 c4), (Value.slice (some ⟨g5, 0, none⟩) n2 c5), .slice none 0 0, .slice none 0 0] 29)) := (Below.refl _ _).alloc (Nat.le_refl _) _
    obtain ⟨w6, hw6⟩ : ∃ W, W = w5.alloc (.cells #[.int .i64 3, (Value.slice (some ⟨g3, 0, none⟩) n c3), (Value.slice (some ⟨g4, 0, none⟩) n1 c4), (Value.slice (some ⟨g5, 0, none⟩) n2 c5), .slice none 0 0, .slice none 0 0] 29) := ⟨_, rfl⟩
    have C6 := Lib.hid (heap_alloc_new w5 (.cells #[.int .i64 3, (Value.slice (some ⟨g3, 0, none⟩) n c3), (Value.slice (some ⟨g4, 0, none⟩) n1 c4), (Value.slice (some ⟨g5, 0, none⟩) n2 c5), .slice none 0 0, .slice none 0 0] 29 (0, 0)))
    rw [← hw6] at hb6
    have C6 : Hid (w6.heap[w5.heap.size]? = some (.cells #[.int .i64 3, (Value.slice (some ⟨g3, 0, none⟩) n c3), (Value.slice (some ⟨g4, 0, none⟩) n1 c4), (Value.slice (some ⟨g5, 0, none⟩) n2 c5), .slice none 0 0, .slice none 0 0] 29 (0, 0))) := by rw [hw6]; exact C6.out
    have hB6 := hB5.trans (hb6.mono hB5.size)
    have Z6 := Lib.hid ((hb6.block _ (lt_of_block Z5.out)).trans Z5.out)
    have A1 := Lib.hid (A1.out.keep hb6); have A2 := Lib.hid (A2.out.keep hb6); have A3 := Lib.hid (A3.out.keep hb6)
    have hsz6 : w5.heap.size + 1 ≤ w6.heap.size := lt_of_block C6.out
    clear hb6
    go_wp2_with fail
    rw [← hw6]
    clear hw6
    refine (KK.out _ hB6).mono ?_
    rintro e w7 ⟨g7, c7, rfl, ho7, hb7⟩
    have hB7 := hB6.trans (hb7.mono hB6.size)
    have Z7 := Lib.hid ((hb7.block _ (lt_of_block Z6.out)).trans Z6.out)
    have C7 := Lib.hid ((hb7.block _ (lt_of_block C6.out)).trans C6.out)
    have A1 := Lib.hid (A1.out.keep hb7); have A2 := Lib.hid (A2.out.keep hb7); have A3 := Lib.hid (A3.out.keep hb7)
    have hsz7 := Nat.le_trans hsz6 hb7.size
    have A4 := Lib.hid (show MayI w7 (w5.heap.size + 1) w7.heap.size (Value.slice (some ⟨g7, 0, none⟩) PR.length c7) PR from (ho7.mayI rfl (Nat.le_refl _)).wide hsz6 (Nat.le_refl _))
    have cc : ∀ j, w7.cell? ⟨w5.heap.size, j, none⟩ = (#[.int .i64 3, (Value.slice (some ⟨g3, 0, none⟩) n c3), (Value.slice (some ⟨g4, 0, none⟩) n1 c4), (Value.slice (some ⟨g5, 0, none⟩) n2 c5), .slice none 0 0, .slice none 0 0] : Array Value)[j]? := fun j => cell_of_cells C7.out j
    have fc : ∀ j, w7.frozen? ⟨w5.heap.size, j, none⟩ = false := fun j => free_of_cells C7.out j
    have dd : ∀ j, w7.cell? ⟨w.heap.size, j, none⟩ = (#[.int .i64 0, .slice none 0 0, .slice none 0 0, .slice none 0 0, .slice none 0 0, .slice none 0 0] : Array Value)[j]? := fun j => cell_of_cells Z7.out j
    have fd : ∀ j, w7.frozen? ⟨w.heap.size, j, none⟩ = false := fun j => free_of_cells Z7.out j
    clear hb7 ho7 Z6 C6 hB6
    cases O with
    | false =>
      have e1 : X = zeroC := Hmk.out
      go_wp2_with fail
      refine bodyPost_ret (v := .tuple #[zeroV, .bool false]) (by simp [results, Tryz.results6, go_sem, dd, zeroV]) rfl ?_
      clear cc fc dd fd
      rw [e1]
      refine MadeC.zero (Below.only (Below.only hB7 (only_set _ ⟨w5.heap.size, 4, none⟩ _ (Nat.le_refl _) (Nat.lt_succ_self _)) (by have := hB5.size; omega) (Nat.le_refl _)) (only_six _ w.heap.size _ _ _ _ _ _) (Nat.le_refl _) (Nat.le_refl _))
    | true =>
      have e1 : X = ⟨3, c, a, b, PR, []⟩ := Hmk.out.trans HP.out
      go_wp2_with fail
      refine bodyPost_ret (v := .tuple #[.agg #[.int .i64 3, (Value.slice (some ⟨g3, 0, none⟩) n c3), (Value.slice (some ⟨g4, 0, none⟩) n1 c4), (Value.slice (some ⟨g5, 0, none⟩) n2 c5), (Value.slice (some ⟨g7, 0, none⟩) PR.length c7), .slice none 0 0], .bool true]) (by simp [results, Tryz.results6, go_sem, dd]) rfl ?_
      clear cc fc dd fd
      rw [e1]
      exact MadeC.fin hB7 hE1 hE2 hE3 (E4 := w7.heap.size) (by omega) (by omega) A1.out A2.out A3.out A4.out (.inl ⟨rfl, rfl⟩) (only_set _ ⟨w5.heap.size, 4, none⟩ _ (Nat.le_refl _) (Nat.lt_succ_self _)) (only_six _ w.heap.size _ _ _ _ _ _)
  by_cases h4 : kd = 4
  · subst h4
    have HP : Hid (rawC 4 c a b = ⟨4, c, a, b, dropL c (nfI c b) (nfI c a), []⟩) := Lib.hid (by show (⟨4, c, a, b, proofC 4 c a b, rootsC 4 c a⟩ : ClaimD) = _; simp [proofC, rootsC])
    have hr : O = !bruB c a b := Hok.out
    have Hmk := Lib.hid hmk.out
    have ka := kB.out; have kb := kN.out
    generalize bruB c a b = BB at *
    subst hr
    generalize dropL c (nfI c b) (nfI c a) = PR at *
    have KA := Lib.hid ka; have KB := Lib.hid kb
    clear ka kb kB kN h1 h2 h3
    clear hmk Hok hO Hsa kF kP kR kS kU kV kW kC H1 H2 k1 k2
    have hb6 : Below w5.heap.size w5 (w5.alloc (.cells #[.int .i64 4, (Value.slice (some ⟨g3, 0, none⟩) n c3), (Value.slice (some ⟨g4, 0, none⟩) n1 c4), (Value.slice (some ⟨g5, 0, none⟩) n2 c5), .slice none 0 0, .slice none 0 0] 29)) := (Below.refl _ _).alloc (Nat.le_refl _) _
    obtain ⟨w6, hw6⟩ : ∃ W, W = w5.alloc (.cells #[.int .i64 4, (Value.slice (some ⟨g3, 0, none⟩) n c3), (Value.slice (some ⟨g4, 0, none⟩) n1 c4), (Value.slice (some ⟨g5, 0, none⟩) n2 c5), .slice none 0 0, .slice none 0 0] 29) := ⟨_, rfl⟩
    have C6 := Lib.hid (heap_alloc_new w5 (.cells #[.int .i64 4, (Value.slice (some ⟨g3, 0, none⟩) n c3), (Value.slice (some ⟨g4, 0, none⟩) n1 c4), (Value.slice (some ⟨g5, 0, none⟩) n2 c5), .slice none 0 0, .slice none 0 0] 29 (0, 0)))
    rw [← hw6] at hb6
    have C6 : Hid (w6.heap[w5.heap.size]? = some (.cells #[.int .i64 4, (Value.slice (some ⟨g3, 0, none⟩) n c3), (Value.slice (some ⟨g4, 0, none⟩) n1 c4), (Value.slice (some ⟨g5, 0, none⟩) n2 c5), .slice none 0 0, .slice none 0 0] 29 (0, 0))) := by rw [hw6]; exact C6.out
    have hB6 := hB5.trans (hb6.mono hB5.size)
    have Z6 := Lib.hid ((hb6.block _ (lt_of_block Z5.out)).trans Z5.out)
    have A1 := Lib.hid (A1.out.keep hb6); have A2 := Lib.hid (A2.out.keep hb6); have A3 := Lib.hid (A3.out.keep hb6)
    have hsz6 : w5.heap.size + 1 ≤ w6.heap.size := lt_of_block C6.out
    clear hb6
    go_wp2_with fail
    rw [← hw6]
    clear hw6
    refine (KA.out _ hB6).mono ?_
    rintro e w7 ⟨rfl, hb7⟩
    have hB7 := hB6.trans (hb7.mono hB6.size)
    have Z7 := Lib.hid ((hb7.block _ (lt_of_block Z6.out)).trans Z6.out)
    have C7 := Lib.hid ((hb7.block _ (lt_of_block C6.out)).trans C6.out)
    have A1 := Lib.hid (A1.out.keep hb7); have A2 := Lib.hid (A2.out.keep hb7); have A3 := Lib.hid (A3.out.keep hb7)
    have hsz7 := Nat.le_trans hsz6 hb7.size
    clear hb7 Z6 C6 hB6
    go_wp2_with fail
    refine (KB.out _ hB7).mono ?_
    rintro e w8 ⟨g8, c8, rfl, ho8, hb8⟩
    have hB8 := hB7.trans (hb8.mono hB7.size)
    have Z8 := Lib.hid ((hb8.block _ (lt_of_block Z7.out)).trans Z7.out)
    have C8 := Lib.hid ((hb8.block _ (lt_of_block C7.out)).trans C7.out)
    have A1 := Lib.hid (A1.out.keep hb8); have A2 := Lib.hid (A2.out.keep hb8); have A3 := Lib.hid (A3.out.keep hb8)
    have hsz8 := Nat.le_trans hsz7 hb8.size
    have A4 := Lib.hid (show MayI w8 (w5.heap.size + 1) w8.heap.size (Value.slice (some ⟨g8, 0, none⟩) PR.length c8) PR from (ho8.mayI rfl (Nat.le_refl _)).wide hsz7 (Nat.le_refl _))
    have hsz78 := hb8.size
    have cc : ∀ j, w8.cell? ⟨w5.heap.size, j, none⟩ = (#[.int .i64 4, (Value.slice (some ⟨g3, 0, none⟩) n c3), (Value.slice (some ⟨g4, 0, none⟩) n1 c4), (Value.slice (some ⟨g5, 0, none⟩) n2 c5), .slice none 0 0, .slice none 0 0] : Array Value)[j]? := fun j => cell_of_cells C8.out j
    have fc : ∀ j, w8.frozen? ⟨w5.heap.size, j, none⟩ = false := fun j => free_of_cells C8.out j
    have dd : ∀ j, w8.cell? ⟨w.heap.size, j, none⟩ = (#[.int .i64 0, .slice none 0 0, .slice none 0 0, .slice none 0 0, .slice none 0 0, .slice none 0 0] : Array Value)[j]? := fun j => cell_of_cells Z8.out j
    have fd : ∀ j, w8.frozen? ⟨w.heap.size, j, none⟩ = false := fun j => free_of_cells Z8.out j
    clear hb8 ho8 Z7 C7 hB7
    cases BB with
    | true =>
      have e1 : X = zeroC := Hmk.out
      go_wp2_with fail
      refine bodyPost_ret (v := .tuple #[zeroV, .bool false]) (by simp [results, Tryz.results6, go_sem, dd, zeroV]) rfl ?_
      clear cc fc dd fd
      rw [e1]
      refine MadeC.zero (Below.only (Below.only hB8 (only_set _ ⟨w5.heap.size, 4, none⟩ _ (Nat.le_refl _) (Nat.lt_succ_self _)) (by have := hB5.size; omega) (Nat.le_refl _)) (only_six _ w.heap.size _ _ _ _ _ _) (Nat.le_refl _) (Nat.le_refl _))
    | false =>
      have e1 : X = ⟨4, c, a, b, PR, []⟩ := Hmk.out.trans HP.out
      go_wp2_with fail
      refine bodyPost_ret (v := .tuple #[.agg #[.int .i64 4, (Value.slice (some ⟨g3, 0, none⟩) n c3), (Value.slice (some ⟨g4, 0, none⟩) n1 c4), (Value.slice (some ⟨g5, 0, none⟩) n2 c5), (Value.slice (some ⟨g8, 0, none⟩) PR.length c8), .slice none 0 0], .bool true]) (by simp [results, Tryz.results6, go_sem, dd]) rfl ?_
      clear cc fc dd fd
      rw [e1]
      exact MadeC.fin hB8 hE1 hE2 hE3 (E4 := w8.heap.size) (by omega) (by omega) A1.out A2.out A3.out A4.out (.inl ⟨rfl, rfl⟩) (only_set _ ⟨w5.heap.size, 4, none⟩ _ (Nat.le_refl _) (Nat.lt_succ_self _)) (only_six _ w.heap.size _ _ _ _ _ _)
  by_cases h5 : kd = 5
  · subst h5
    have HP : Hid (rawC 5 c a b = ⟨5, c, a, b, witness c, []⟩) := Lib.hid (by show (⟨5, c, a, b, proofC 5 c a b, rootsC 5 c a⟩ : ClaimD) = _; simp [proofC, rootsC])
    have hr : O = !finB c := Hok.out
    have Hmk := Lib.hid hmk.out
    have ka := kF.out; have kb := kW.out
    generalize finB c = BB at *
    subst hr
    generalize witness c = PR at *
    have KA := Lib.hid ka; have KB := Lib.hid kb
    clear ka kb kF kW h1 h2 h3 h4
    clear hmk Hok hO Hsa kB kN kP kR kS kU kV kC H1 H2 k1 k2
    have hb6 : Below w5.heap.size w5 (w5.alloc (.cells #[.int .i64 5, (Value.slice (some ⟨g3, 0, none⟩) n c3), (Value.slice (some ⟨g4, 0, none⟩) n1 c4), (Value.slice (some ⟨g5, 0, none⟩) n2 c5), .slice none 0 0, .slice none 0 0] 29)) := (Below.refl _ _).alloc (Nat.le_refl _) _
    obtain ⟨w6, hw6⟩ : ∃ W, W = w5.alloc (.cells #[.int .i64 5, (Value.slice (some ⟨g3, 0, none⟩) n c3), (Value.slice (some ⟨g4, 0, none⟩) n1 c4), (Value.slice (some ⟨g5, 0, none⟩) n2 c5), .slice none 0 0, .slice none 0 0] 29) := ⟨_, rfl⟩
    have C6 := Lib.hid (heap_alloc_new w5 (.cells #[.int .i64 5, (Value.slice (some ⟨g3, 0, none⟩) n c3), (Value.slice (some ⟨g4, 0, none⟩) n1 c4), (Value.slice (some ⟨g5, 0, none⟩) n2 c5), .slice none 0 0, .slice none 0 0] 29 (0, 0)))
    rw [← hw6] at hb6
    have C6 : Hid (w6.heap[w5.heap.size]? = some (.cells #[.int .i64 5, (Value.slice (some ⟨g3, 0, none⟩) n c3), (Value.slice (some ⟨g4, 0, none⟩) n1 c4), (Value.slice (some ⟨g5, 0, none⟩) n2 c5), .slice none 0 0, .slice none 0 0] 29 (0, 0))) := by rw [hw6]; exact C6.out
    have hB6 := hB5.trans (hb6.mono hB5.size)
    have Z6 := Lib.hid ((hb6.block _ (lt_of_block Z5.out)).trans Z5.out)
    have A1 := Lib.hid (A1.out.keep hb6); have A2 := Lib.hid (A2.out.keep hb6); have A3 := Lib.hid (A3.out.keep hb6)
    have hsz6 : w5.heap.size + 1 ≤ w6.heap.size := lt_of_block C6.out
    clear hb6
    go_wp2_with fail
    rw [← hw6]
    clear hw6
    refine (KA.out _ hB6).mono ?_
    rintro e w7 ⟨rfl, hb7⟩
    have hB7 := hB6.trans (hb7.mono hB6.size)
    have Z7 := Lib.hid ((hb7.block _ (lt_of_block Z6.out)).trans Z6.out)
    have C7 := Lib.hid ((hb7.block _ (lt_of_block C6.out)).trans C6.out)
    have A1 := Lib.hid (A1.out.keep hb7); have A2 := Lib.hid (A2.out.keep hb7); have A3 := Lib.hid (A3.out.keep hb7)
    have hsz7 := Nat.le_trans hsz6 hb7.size
    clear hb7 Z6 C6 hB6
    go_wp2_with fail
    refine (KB.out _ hB7).mono ?_
    rintro e w8 ⟨g8, c8, rfl, ho8, hb8⟩
    have hB8 := hB7.trans (hb8.mono hB7.size)
    have Z8 := Lib.hid ((hb8.block _ (lt_of_block Z7.out)).trans Z7.out)
    have C8 := Lib.hid ((hb8.block _ (lt_of_block C7.out)).trans C7.out)
    have A1 := Lib.hid (A1.out.keep hb8); have A2 := Lib.hid (A2.out.keep hb8); have A3 := Lib.hid (A3.out.keep hb8)
    have hsz8 := Nat.le_trans hsz7 hb8.size
    have A4 := Lib.hid (show MayI w8 (w5.heap.size + 1) w8.heap.size (Value.slice (some ⟨g8, 0, none⟩) PR.length c8) PR from (ho8.mayI rfl (Nat.le_refl _)).wide hsz7 (Nat.le_refl _))
    have hsz78 := hb8.size
    have cc : ∀ j, w8.cell? ⟨w5.heap.size, j, none⟩ = (#[.int .i64 5, (Value.slice (some ⟨g3, 0, none⟩) n c3), (Value.slice (some ⟨g4, 0, none⟩) n1 c4), (Value.slice (some ⟨g5, 0, none⟩) n2 c5), .slice none 0 0, .slice none 0 0] : Array Value)[j]? := fun j => cell_of_cells C8.out j
    have fc : ∀ j, w8.frozen? ⟨w5.heap.size, j, none⟩ = false := fun j => free_of_cells C8.out j
    have dd : ∀ j, w8.cell? ⟨w.heap.size, j, none⟩ = (#[.int .i64 0, .slice none 0 0, .slice none 0 0, .slice none 0 0, .slice none 0 0, .slice none 0 0] : Array Value)[j]? := fun j => cell_of_cells Z8.out j
    have fd : ∀ j, w8.frozen? ⟨w.heap.size, j, none⟩ = false := fun j => free_of_cells Z8.out j
    clear hb8 ho8 Z7 C7 hB7
    cases BB with
    | true =>
      have e1 : X = zeroC := Hmk.out
      go_wp2_with fail
      refine bodyPost_ret (v := .tuple #[zeroV, .bool false]) (by simp [results, Tryz.results6, go_sem, dd, zeroV]) rfl ?_
      clear cc fc dd fd
      rw [e1]
      refine MadeC.zero (Below.only (Below.only hB8 (only_set _ ⟨w5.heap.size, 4, none⟩ _ (Nat.le_refl _) (Nat.lt_succ_self _)) (by have := hB5.size; omega) (Nat.le_refl _)) (only_six _ w.heap.size _ _ _ _ _ _) (Nat.le_refl _) (Nat.le_refl _))
    | false =>
      have e1 : X = ⟨5, c, a, b, PR, []⟩ := Hmk.out.trans HP.out
      go_wp2_with fail
      refine bodyPost_ret (v := .tuple #[.agg #[.int .i64 5, (Value.slice (some ⟨g3, 0, none⟩) n c3), (Value.slice (some ⟨g4, 0, none⟩) n1 c4), (Value.slice (some ⟨g5, 0, none⟩) n2 c5), (Value.slice (some ⟨g8, 0, none⟩) PR.length c8), .slice none 0 0], .bool true]) (by simp [results, Tryz.results6, go_sem, dd]) rfl ?_
      clear cc fc dd fd
      rw [e1]
      exact MadeC.fin hB8 hE1 hE2 hE3 (E4 := w8.heap.size) (by omega) (by omega) A1.out A2.out A3.out A4.out (.inl ⟨rfl, rfl⟩) (only_set _ ⟨w5.heap.size, 4, none⟩ _ (Nat.le_refl _) (Nat.lt_succ_self _)) (only_six _ w.heap.size _ _ _ _ _ _)
  by_cases h6 : kd = 6
  · subst h6
    have HP : Hid (rawC 6 c a b = ⟨6, c, a, b, [], []⟩) := Lib.hid (by show (⟨6, c, a, b, proofC 6 c a b, rootsC 6 c a⟩ : ClaimD) = _; simp [proofC, rootsC])
    have hr : O = coversB c a := Hok.out
    have Hmk := Lib.hid hmk.out
    have kk := kV.out; rw [← hr] at kk
    have KK := Lib.hid kk
    clear kk kV h1 h2 h3 h4 h5
    clear hr hmk Hok hO Hsa kB kF kN kP kR kS kU kW kC H1 H2 k1 k2
    have hb6 : Below w5.heap.size w5 (w5.alloc (.cells #[.int .i64 6, (Value.slice (some ⟨g3, 0, none⟩) n c3), (Value.slice (some ⟨g4, 0, none⟩) n1 c4), (Value.slice (some ⟨g5, 0, none⟩) n2 c5), .slice none 0 0, .slice none 0 0] 29)) := (Below.refl _ _).alloc (Nat.le_refl _) _
    obtain ⟨w6, hw6⟩ : ∃ W, W = w5.alloc (.cells #[.int .i64 6, (Value.slice (some ⟨g3, 0, none⟩) n c3), (Value.slice (some ⟨g4, 0, none⟩) n1 c4), (Value.slice (some ⟨g5, 0, none⟩) n2 c5), .slice none 0 0, .slice none 0 0] 29) := ⟨_, rfl⟩
    have C6 := Lib.hid (heap_alloc_new w5 (.cells #[.int .i64 6, (Value.slice (some ⟨g3, 0, none⟩) n c3), (Value.slice (some ⟨g4, 0, none⟩) n1 c4), (Value.slice (some ⟨g5, 0, none⟩) n2 c5), .slice none 0 0, .slice none 0 0] 29 (0, 0)))
    rw [← hw6] at hb6
    have C6 : Hid (w6.heap[w5.heap.size]? = some (.cells #[.int .i64 6, (Value.slice (some ⟨g3, 0, none⟩) n c3), (Value.slice (some ⟨g4, 0, none⟩) n1 c4), (Value.slice (some ⟨g5, 0, none⟩) n2 c5), .slice none 0 0, .slice none 0 0] 29 (0, 0))) := by rw [hw6]; exact C6.out
    have hB6 := hB5.trans (hb6.mono hB5.size)
    have Z6 := Lib.hid ((hb6.block _ (lt_of_block Z5.out)).trans Z5.out)
    have A1 := Lib.hid (A1.out.keep hb6); have A2 := Lib.hid (A2.out.keep hb6); have A3 := Lib.hid (A3.out.keep hb6)
    have hsz6 : w5.heap.size + 1 ≤ w6.heap.size := lt_of_block C6.out
    clear hb6
    go_wp2_with fail
    rw [← hw6]
    clear hw6
    refine (KK.out _ hB6).mono ?_
    rintro e w7 ⟨rfl, hb7⟩
    have hB7 := hB6.trans (hb7.mono hB6.size)
    have Z7 := Lib.hid ((hb7.block _ (lt_of_block Z6.out)).trans Z6.out)
    have C7 := Lib.hid ((hb7.block _ (lt_of_block C6.out)).trans C6.out)
    have A1 := Lib.hid (A1.out.keep hb7); have A2 := Lib.hid (A2.out.keep hb7); have A3 := Lib.hid (A3.out.keep hb7)
    have hsz7 := Nat.le_trans hsz6 hb7.size
    have cc : ∀ j, w7.cell? ⟨w5.heap.size, j, none⟩ = (#[.int .i64 6, (Value.slice (some ⟨g3, 0, none⟩) n c3), (Value.slice (some ⟨g4, 0, none⟩) n1 c4), (Value.slice (some ⟨g5, 0, none⟩) n2 c5), .slice none 0 0, .slice none 0 0] : Array Value)[j]? := fun j => cell_of_cells C7.out j
    have fc : ∀ j, w7.frozen? ⟨w5.heap.size, j, none⟩ = false := fun j => free_of_cells C7.out j
    have dd : ∀ j, w7.cell? ⟨w.heap.size, j, none⟩ = (#[.int .i64 0, .slice none 0 0, .slice none 0 0, .slice none 0 0, .slice none 0 0, .slice none 0 0] : Array Value)[j]? := fun j => cell_of_cells Z7.out j
    have fd : ∀ j, w7.frozen? ⟨w.heap.size, j, none⟩ = false := fun j => free_of_cells Z7.out j
    clear hb7 Z6 C6 hB6
    cases O with
    | false =>
      have e1 : X = zeroC := Hmk.out
      go_wp2_with fail
      refine bodyPost_ret (v := .tuple #[zeroV, .bool false]) (by simp [results, Tryz.results6, go_sem, dd, zeroV]) rfl ?_
      clear cc fc dd fd
      rw [e1]
      refine MadeC.zero (Below.only (Below.only hB7 (Only.refl w5.heap.size (w5.heap.size + 1) _) (by have := hB5.size; omega) (Nat.le_refl _)) (only_six _ w.heap.size _ _ _ _ _ _) (Nat.le_refl _) (Nat.le_refl _))
    | true =>
      have e1 : X = ⟨6, c, a, b, [], []⟩ := Hmk.out.trans HP.out
      go_wp2_with fail
      refine bodyPost_ret (v := .tuple #[.agg #[.int .i64 6, (Value.slice (some ⟨g3, 0, none⟩) n c3), (Value.slice (some ⟨g4, 0, none⟩) n1 c4), (Value.slice (some ⟨g5, 0, none⟩) n2 c5), .slice none 0 0, .slice none 0 0], .bool true]) (by simp [results, Tryz.results6, go_sem, dd]) rfl ?_
      clear cc fc dd fd
      rw [e1]
      exact MadeC.fin hB7 hE1 hE2 hE3 (E4 := w7.heap.size) (by omega) (by omega) A1.out A2.out A3.out (.inl ⟨rfl, rfl⟩) (.inl ⟨rfl, rfl⟩) (Only.refl w5.heap.size (w5.heap.size + 1) _) (only_six _ w.heap.size _ _ _ _ _ _)
  have e0 : okC kd c a b = false := by unfold okC; rw [if_neg h1, if_neg h2, if_neg h3, if_neg h4, if_neg h5, if_neg h6]
  obtain rfl : O = false := Hok.out.trans e0
  have Hmk := Lib.hid hmk.out
  have d1 : (kd == 1) = false := by simpa using h1
  have d2 : (kd == 2) = false := by simpa using h2
  have d3 : (kd == 3) = false := by simpa using h3
  have d4 : (kd == 4) = false := by simpa using h4
  have d5 : (kd == 5) = false := by simpa using h5
  have d6 : (kd == 6) = false := by simpa using h6
  clear hmk Hok hO Hsa kB kF kN kP kR kS kU kV kW kC H1 H2 k1 k2 e0
  have hb6 : Below w5.heap.size w5 (w5.alloc (.cells #[.int .i64 kd, (Value.slice (some ⟨g3, 0, none⟩) n c3), (Value.slice (some ⟨g4, 0, none⟩) n1 c4), (Value.slice (some ⟨g5, 0, none⟩) n2 c5), .slice none 0 0, .slice none 0 0] 29)) := (Below.refl _ _).alloc (Nat.le_refl _) _
  obtain ⟨w6, hw6⟩ : ∃ W, W = w5.alloc (.cells #[.int .i64 kd, (Value.slice (some ⟨g3, 0, none⟩) n c3), (Value.slice (some ⟨g4, 0, none⟩) n1 c4), (Value.slice (some ⟨g5, 0, none⟩) n2 c5), .slice none 0 0, .slice none 0 0] 29) := ⟨_, rfl⟩
  have C6 := Lib.hid (heap_alloc_new w5 (.cells #[.int .i64 kd, (Value.slice (some ⟨g3, 0, none⟩) n c3), (Value.slice (some ⟨g4, 0, none⟩) n1 c4), (Value.slice (some ⟨g5, 0, none⟩) n2 c5), .slice none 0 0, .slice none 0 0] 29 (0, 0)))
  rw [← hw6] at hb6
  have C6 : Hid (w6.heap[w5.heap.size]? = some (.cells #[.int .i64 kd, (Value.slice (some ⟨g3, 0, none⟩) n c3), (Value.slice (some ⟨g4, 0, none⟩) n1 c4), (Value.slice (some ⟨g5, 0, none⟩) n2 c5), .slice none 0 0, .slice none 0 0] 29 (0, 0))) := by rw [hw6]; exact C6.out
  have hB6 := hB5.trans (hb6.mono hB5.size)
  have Z6 := Lib.hid ((hb6.block _ (lt_of_block Z5.out)).trans Z5.out)
  have A1 := Lib.hid (A1.out.keep hb6); have A2 := Lib.hid (A2.out.keep hb6); have A3 := Lib.hid (A3.out.keep hb6)
  have hsz6 : w5.heap.size + 1 ≤ w6.heap.size := lt_of_block C6.out
  have cc : ∀ j, w6.cell? ⟨w5.heap.size, j, none⟩ = (#[.int .i64 kd, (Value.slice (some ⟨g3, 0, none⟩) n c3), (Value.slice (some ⟨g4, 0, none⟩) n1 c4), (Value.slice (some ⟨g5, 0, none⟩) n2 c5), .slice none 0 0, .slice none 0 0] : Array Value)[j]? := fun j => cell_of_cells C6.out j
  have fc : ∀ j, w6.frozen? ⟨w5.heap.size, j, none⟩ = false := fun j => free_of_cells C6.out j
  have dd : ∀ j, w6.cell? ⟨w.heap.size, j, none⟩ = (#[.int .i64 0, .slice none 0 0, .slice none 0 0, .slice none 0 0, .slice none 0 0, .slice none 0 0] : Array Value)[j]? := fun j => cell_of_cells Z6.out j
  have fd : ∀ j, w6.frozen? ⟨w.heap.size, j, none⟩ = false := fun j => free_of_cells Z6.out j
  subst hw6
  go_wp2_with fail
  have e1 : X = zeroC := Hmk.out
  refine bodyPost_ret (v := .tuple #[zeroV, .bool false]) (by simp [results, Tryz.results6, go_sem, dd, zeroV]) rfl ?_
  clear cc fc dd fd
  rw [e1]
  refine MadeC.zero (Below.only hB6 (only_six _ w.heap.size _ _ _ _ _ _) (Nat.le_refl _) (Nat.le_refl _))
end Go.Proofs.YtkjglfafphffiaaGreatDoor
