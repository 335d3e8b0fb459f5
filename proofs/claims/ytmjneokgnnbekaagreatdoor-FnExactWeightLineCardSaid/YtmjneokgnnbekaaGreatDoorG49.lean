/- WeightLine of both: contracts. Printed by wip/mkwtl.py. -/
import Derived.Test.YtmjneokgnnbekaaGreatDoorG22
import Derived.Test.YtmjneokgnnbekaaGreatDoorG43
import Derived.Test.YtmjneokgnnbekaaGreatDoorG45
import Derived.Test.YtmjneokgnnbekaaGreatDoorG48
import Derived.Test.YtmjneokgnnbekaaGreatDoorG46
namespace Go.Proofs.YtmjneokgnnbekaaGreatDoor
set_option maxRecDepth 100000
set_option linter.unusedSimpArgs false
open Go.RowKit Game
open Go.Lib (join decDigits itoa)

theorem wordL_short {l : List Int} (h : l.length ≤ 50) : (wordL l).length ≤ 100 := by
  unfold wordL
  split
  · simp
  · split
    · unfold digs; rw [List.length_map]; omega
    · simp
theorem addE (a : List UInt8) (s : Array UInt8) (hs : s = a.toArray) (b : List UInt8) (h : (a ++ b).length ≤ 9223372036854775807) : ∃ s2 : Array UInt8, s2 = (a ++ b).toArray ∧ ∀ W, (Op.stringOp .add ⟨s⟩ ⟨b.toArray⟩).run Tryz.prog W = .ok (.string ⟨s2⟩) W := by
  subst hs
  exact ⟨_, rfl, fun W => addS W a b _ rfl h⟩
theorem spec_l35Yes_any (b : Bool) (s : List UInt8) (w : World) : Calls Tryz.prog 18 #[.bool b, .string ⟨s.toArray⟩] w (Reads w (.string ⟨(cond b s []).toArray⟩)) := by
  cases b with
  | true =>
    go_enter Tryz.func18, Tryz.ntmps18
    go_wp2
    go_ret
    exact ⟨rfl, 0, rfl⟩
  | false =>
    go_enter Tryz.func18, Tryz.ntmps18
    go_wp2
    go_ret
    exact ⟨rfl, 0, rfl⟩

section
variable {ops : Array Oper} {rest : List Oper} {o : Oper} {a : Act} {Q : Exit → Act → World → Prop}
/-- 'append(words, a)' -/
theorem wpList_append_S1 (hgd : o.guard = none) (s x : Operand)
    (ho : o.op = .call { callee := .builtin .append, args := #[s, x], argTypes := #[41, 41] })
    (B g cap n H : Nat) (L : List (List UInt8)) (z : List UInt8) (w W : World) (hn : L.length = n) (hW : W = w.alloc (.cells #[.string ⟨z.toArray⟩] 9)) (hH : w.heap.size = H) (hown : OwnStrs w B g cap (strs L))
    (hs : a.eval s = (Value.slice (some ⟨g, 0, none⟩) n cap)) (hx : a.eval x = (Value.slice (some ⟨H, 0, none⟩) 1 1)) (hlen : n + 1 ≤ 1048576)
    (h : ∀ g' cap' w', OwnStrs w' B g' cap' (strs (L ++ [z])) → w.grownBy w' (some g) → wpList Tryz.prog ops Q rest (a.put o.dst (Value.slice (some ⟨g', 0, none⟩) (n + 1) cap')) w') :
    wpList Tryz.prog ops Q (o :: rest) a W :=
  wpList_append_str hgd s x ho B g cap n H (strs L) ⟨z.toArray⟩ w W (by simpa [strs] using hn) hW hH hown hs hx hlen (fun g' cap' w' h1 h2 _ => h g' cap' w' (by simpa [strs] using h1) h2)
/-- 'append(words, a, b)' -/
theorem wpList_append_S2 (hgd : o.guard = none) (s x : Operand)
    (ho : o.op = .call { callee := .builtin .append, args := #[s, x], argTypes := #[41, 41] })
    (B g cap n H : Nat) (L : List (List UInt8)) (y z : List UInt8) (w W : World) (hn : L.length = n) (hW : W = w.alloc (.cells #[.string ⟨y.toArray⟩, .string ⟨z.toArray⟩] 9)) (hH : w.heap.size = H) (hown : OwnStrs w B g cap (strs L))
    (hs : a.eval s = (Value.slice (some ⟨g, 0, none⟩) n cap)) (hx : a.eval x = (Value.slice (some ⟨H, 0, none⟩) 2 2)) (hlen : n + 2 ≤ 1048576)
    (h : ∀ g' cap' w', OwnStrs w' B g' cap' (strs (L ++ [y, z])) → w.grownBy w' (some g) → wpList Tryz.prog ops Q rest (a.put o.dst (Value.slice (some ⟨g', 0, none⟩) (n + 2) cap')) w') :
    wpList Tryz.prog ops Q (o :: rest) a W := by
  subst hn; subst hW; subst hH
  have hnew : OwnStrs (w.alloc (.cells #[.string ⟨y.toArray⟩, .string ⟨z.toArray⟩] 9)) w.heap.size w.heap.size 2 [⟨y.toArray⟩, ⟨z.toArray⟩] := World.ownsRow_lit w #[.string ⟨y.toArray⟩, .string ⟨z.toArray⟩] 2 (Nat.le_refl _) (by decide) rfl
  have hls : (strs L).length = L.length := by simp [strs]
  refine wpList_append_K infoStr Tryz.underlying41 rfl (by decide) (by decide) hgd s x ho B g cap L.length ((strs L).map Value.string) (by rw [← hls]; exact OwnK.alloc hown _) w.heap.size 0 2 2 [.string ⟨y.toArray⟩, .string ⟨z.toArray⟩] rfl ?_ ?_ hs hx hlen ?_
  · intro j u hu
    have hj : j < 2 := by have := (List.getElem?_eq_some_iff.1 hu).1; simpa using this
    rcases (show j = 0 ∨ j = 1 by omega) with rfl | rfl
    · have := hnew.cell 0 _ rfl
      rw [this]; simpa using hu
    · have := hnew.cell 1 _ rfl
      rw [this]; simpa using hu
  · intro u hu
    simp at hu
    rcases hu with rfl | rfl <;> rfl
  · intro g' cap' w' h2 h3 h4
    refine h g' cap' w' ?_ ⟨h3.os, h3.tape, h3.output, Nat.le_trans (by simp) h3.size, fun k hk hne => (h3.block k (by simp; omega) hne).trans (Below.heap_alloc _ _ _ hk)⟩
    have e : strs (L ++ [y, z]) = strs L ++ [⟨y.toArray⟩, ⟨z.toArray⟩] := by simp [strs]
    unfold OwnStrs
    rw [e, List.map_append, List.length_append, hls]
    exact h2
end

def wtParts (A B C D E : List UInt8) (dm ob mn : Bool) : List (List UInt8) :=
  [A, [105, 115], B, [111, 102], C] ++ cond dm [[100, 105, 109, 101, 110, 115, 105, 111, 110], D] [] ++ cond ob [[111, 114, 98, 105, 116], E] [] ++ cond mn [[109, 105, 110, 117, 115, 99, 117, 108, 101]] []
def wtS (A B C D E : List UInt8) (dm ob mn : Bool) : List UInt8 :=
  A ++ [32, 105, 115, 32] ++ B ++ [32, 111, 102, 32] ++ C ++ cond dm ([32, 100, 105, 109, 101, 110, 115, 105, 111, 110, 32] ++ D) [] ++ cond ob ([32, 111, 114, 98, 105, 116, 32] ++ E) [] ++ cond mn [32, 109, 105, 110, 117, 115, 99, 117, 108, 101] []
theorem wtS_eq (A B C D E : List UInt8) (dm ob mn : Bool) : wtS A B C D E dm ob mn = join (wtParts A B C D E dm ob mn) [32] := by
  cases dm <;> cases ob <;> cases mn <;> simp [wtS, wtParts, join, List.intercalate, List.intersperse]
theorem wtS_len {A B C D E : List UInt8} (hA : A.length ≤ 100) (hB : B.length ≤ 100) (hC : C.length ≤ 100) (hD : D.length ≤ 100) (hE : E.length ≤ 100) (dm ob mn : Bool) : (wtS A B C D E dm ob mn).length ≤ 1000 := by
  cases dm <;> cases ob <;> cases mn <;> simp only [wtS, cond_true, cond_false, List.length_append, List.length_cons, List.length_nil] <;> omega
/-- a weight in a finite type -/
def wlOk (c : List (List Int)) (v : List Int) : Prop := wtOk c v ∧ finB c = true
instance (c : List (List Int)) (v : List Int) : Decidable (wlOk c v) := by unfold wlOk; infer_instance
/-- the line -/
def weightLineL (c : List (List Int)) (v : List Int) (k : Nat) (b : Bool) : List UInt8 :=
  if wlOk c v then join (wtParts (weightL v) (wordL (intsOf (topW c v))) (weightL (topX c v)) (itoa (dimL c (topX c v))) (itoa (k : Int)) (dimB c (topX c v)) b (minB c (topX c v))) [32] else []
theorem wf_i64 {x : Int} (h : -9223372036854775808 ≤ x) (h2 : x ≤ 9223372036854775807) : (Lit.int .i64 x).wf = true := by
  simp [Lit.wf, IntKind.min, IntKind.max, IntKind.signed, IntKind.bits]
  omega
theorem i64s_orb {c : List (List Int)} {v x : List Int} (hD : DomW c v) (h : OrbP c v x) : I64s x := fun y hy => by
  obtain ⟨j, hj, rfl⟩ := List.mem_iff_getElem.1 hy
  have hb := h.bd hD j (by rw [← h.1]; exact hj)
  have e : Game.toV x j = x[j] := by simp [Game.toV, List.getD, hj]
  rw [e] at hb
  unfold bigM at hb
  exact wf_i64 (by omega) (by omega)
theorem dim_small (c : List (List Int)) (v : List Int) : 0 ≤ dimL c v ∧ dimL c v ≤ 9223372036854775807 := by
  unfold dimL
  split
  · rename_i h
    have h2 := h
    unfold dimB at h2
    rw [Bool.and_eq_true, Bool.and_eq_true, decide_eq_true_eq, decide_eq_true_eq] at h2
    obtain ⟨⟨h3, h4⟩, h5⟩ := h2
    have hD := dimOk (coOk_fin h3) h5 h4
    have h6 := hD.dvd
    have h7 : dimN c v = prodN (abL v (coL c)) / prodN (beL (coL c)) := rfl
    rw [← h7] at h6
    have h8 := pTo_pos hD.pb (abL v (coL c)).length (by rw [hD.len]; exact Nat.le_refl _)
    have h9 := hD.le
    have h10 : dimN c v ≤ dimN c v * pTo (beL (coL c)) (abL v (coL c)).length := Nat.le_mul_of_pos_right _ h8
    have h11 : (2 : Nat) ^ 62 = 4611686018427387904 := by decide
    omega
  · omega
theorem orbM_few {c : List (List Int)} {v : List Int} {M : List (List Int)} {b : Bool} (h : OrbM c v M b) : M.length ≤ 200 := by
  rcases h with ⟨-, h, -⟩ | ⟨-, h, -⟩
  · exact h
  · rw [h]; simp
theorem own_five (w : World) (B : Nat) (A C D : List UInt8) (hB : B ≤ w.heap.size) : OwnStrs (w.alloc (.cells #[.string ⟨A.toArray⟩, .string ⟨#[105, 115]⟩, .string ⟨C.toArray⟩, .string ⟨#[111, 102]⟩, .string ⟨D.toArray⟩] 9)) B w.heap.size 5 (strs [A, [105, 115], C, [111, 102], D]) :=
  World.ownsRow_lit w #[.string ⟨A.toArray⟩, .string ⟨#[105, 115]⟩, .string ⟨C.toArray⟩, .string ⟨#[111, 102]⟩, .string ⟨D.toArray⟩] 5 hB (by decide) rfl

set_option maxHeartbeats 600000 in
theorem spec_WeightLine_any (gc oc n cc g o m cp : Nat) (c : List (List Int)) (v : List Int) (M : List (List Int)) (b : Bool) (w : World) (hn : c.length = n) (hm : v.length = m) (hM : OrbM c v M b) (hx : c.length ≤ 1048576) (hrl : ∀ j, j < c.length → (c.getD j []).length ≤ 1048576) (hl : v.length ≤ 1048576)
    (hgc : gc < w.heap.size) (hg : g < w.heap.size) (hr : Rows2 w gc oc c) (hv : Cells w g o v) :
    Calls Tryz.prog 5 #[(Value.slice (some ⟨gc, oc, none⟩) n cc), (Value.slice (some ⟨g, o, none⟩) m cp)] w (Gives w (.string ⟨(weightLineL c v M.length b).toArray⟩)) := by
  subst hn; subst hm
  unfold weightLineL
  by_cases hw : wlOk c v
  · have hD := Game.DomW.of hw.1 hw.2
    have hcall : Calls Tryz.prog 12 #[(Value.slice (some ⟨gc, oc, none⟩) c.length cc), (Value.slice (some ⟨g, o, none⟩) v.length cp)] w (fun e w' => ∃ g1 c1 g2 c2, e = .returned (.tuple #[(Value.slice (some ⟨g1, 0, none⟩) c.length c1), (Value.slice (some ⟨g2, 0, none⟩) ((topW c v).length) c2), .bool true]) ∧ Own w' w.heap.size g1 c1 (topX c v) ∧ Own w' w.heap.size g2 c2 (intsOf (topW c v)) ∧ Below w.heap.size w w') := spec_DominantOf_top gc oc _ cc g o _ cp c v w rfl rfl hD hgc hg hr hv
    rw [if_pos hw]
    rw [← wtS_eq]
    have hT := topOk hD
    have hTe := hT.1.end_
    have hx4 : (topX c v).length = c.length := hTe.1
    have hC4 := hD.hC.2.1
    have hvl := hD.len
    have hi64v : I64s v := i64s_orb hD (OrbP.self hD.len)
    have hi64x : I64s (topX c v) := i64s_orb hD hTe
    obtain ⟨hd0, hd1⟩ := dim_small c (topX c v)
    have hMf := orbM_few hM
    have hwf1 := wf_i64 (x := dimL c (topX c v)) (by omega) hd1
    have hwf2 := wf_i64 (x := (M.length : Int)) (by omega) (by omega)
    have hsW : (intsOf (topW c v)).length = (topW c v).length := intsOf_length _
    have hA : (weightL v).length ≤ 100 := by have := weightL_len hi64v; omega
    have hB : (wordL (intsOf (topW c v))).length ≤ 100 := wordL_short (by rw [hsW]; have := hT.2; omega)
    have hCc : (weightL (topX c v)).length ≤ 100 := by have := weightL_len hi64x; omega
    have hDd : (itoa (dimL c (topX c v))).length ≤ 100 := by have := Lib.itoa_length_le (dimL c (topX c v)) (by omega) hd1; omega
    have hEe : (itoa (M.length : Int)).length ≤ 100 := by have := Lib.itoa_length_le (M.length : Int) (by omega) (by omega); omega
    have hlen := fun dm ob mn => wtS_len hA hB hCc hDd hEe dm ob mn
    have HFv := Lib.hid (fun W (hb : Below w.heap.size w W) => spec_FormatWeight_any g o _ cp v W rfl (by omega) hi64v (Nat.lt_of_lt_of_le hg hb.size) (hv.below hb hg))
    have HFw := Lib.hid (fun W B g2 c2 (h : Own W B g2 c2 (intsOf (topW c v))) => spec_FormatWord_any g2 0 (topW c v).length c2 (intsOf (topW c v)) W hsW (by rw [hsW]; have := hT.2; omega) h.lt h.cells)
    have HFx := Lib.hid (fun W B g2 c2 (h : Own W B g2 c2 (topX c v)) => spec_FormatWeight_any g2 0 c.length c2 (topX c v) W hx4 (by omega) hi64x h.lt h.cells)
    have HD := Lib.hid (fun W B g2 c2 (hb : Below w.heap.size w W) (h : Own W B g2 c2 (topX c v)) => spec_WeylDimension_any gc oc _ cc g2 0 c.length c2 c (topX c v) W rfl hx4 hx (by omega) hrl (Nat.lt_of_lt_of_le hgc hb.size) h.lt (hr.below hb hgc) h.cells)
    have HO := Lib.hid (fun W (hb : Below w.heap.size w W) => spec_OrbitOf_dom gc oc _ cc g o _ cp c v M b W rfl rfl hD hM (Nat.lt_of_lt_of_le hgc hb.size) (Nat.lt_of_lt_of_le hg hb.size) (hr.below hb hgc) (hv.below hb hg))
    have HMn := Lib.hid (fun W B g2 c2 (hb : Below w.heap.size w W) (h : Own W B g2 c2 (topX c v)) => spec_IsMinuscule_any gc oc _ cc g2 0 c.length c2 c (topX c v) W rfl hx4 hx4 hx hrl (Nat.lt_of_lt_of_le hgc hb.size) h.lt (hr.below hb hgc) h.cells)
    have HI1 := Lib.hid (fun W => spec_FormatInt_any (dimL c (topX c v)) W hwf1)
    have HI2 := Lib.hid (fun W => spec_FormatInt_any (M.length : Int) W hwf2)
    have Hcall := Lib.hid hcall
    have hdv : dimV c (topX c v) = .tuple #[.int .i64 (dimL c (topX c v)), .bool (dimB c (topX c v))] := rfl
    rw [hdv] at HD
    have hfew : M.length ≤ 200 := hMf
    clear hcall hT hTe hx4 hC4 hvl hi64v hi64x hd0 hd1 hMf hwf1 hwf2 hsW hA hB hCc hDd hEe hr hv hrl hx hl hD hM hw hdv
    generalize weightL v = A at *
    generalize wordL (intsOf (topW c v)) = B at *
    generalize weightL (topX c v) = C at *
    generalize itoa (dimL c (topX c v)) = D at *
    generalize itoa (M.length : Int) = E at *
    generalize dimL c (topX c v) = dl at *
    generalize dimB c (topX c v) = dm at *
    generalize minB c (topX c v) = mn at *
    generalize topX c v = X at *
    generalize hWl : (topW c v).length = nW at *
    generalize intsOf (topW c v) = Wd at *
    clear hWl
    have HY := Lib.hid (fun W => spec_l35Yes_any mn [32, 109, 105, 110, 117, 115, 99, 117, 108, 101] W)
    have hlb : ∀ dm ob mn, (wtS A B C D E dm ob mn).length ≤ 9223372036854775807 := fun dm ob mn => Nat.le_trans (hlen dm ob mn) (by decide)
    have h1 := hlb true true mn
    simp only [wtS, cond_true, cond_false, List.length_append, List.length_cons, List.length_nil] at h1
    obtain ⟨s1, e1, q1⟩ := addE (A) A.toArray rfl [32, 105, 115, 32] (by simp only [List.length_append, List.length_cons, List.length_nil]; omega)
    obtain ⟨s2, e2, q2⟩ := addE (A ++ [32, 105, 115, 32]) s1 e1 B (by simp only [List.length_append, List.length_cons, List.length_nil]; omega)
    obtain ⟨s3, e3, q3⟩ := addE (A ++ [32, 105, 115, 32] ++ B) s2 e2 [32, 111, 102, 32] (by simp only [List.length_append, List.length_cons, List.length_nil]; omega)
    obtain ⟨s4, e4, q4⟩ := addE (A ++ [32, 105, 115, 32] ++ B ++ [32, 111, 102, 32]) s3 e3 C (by simp only [List.length_append, List.length_cons, List.length_nil]; omega)
    generalize hY : (cond mn [32, 109, 105, 110, 117, 115, 99, 117, 108, 101] [] : List UInt8) = Y at *
    have H1 := Lib.hid h1; have HYe := Lib.hid hY; clear h1 hlb hlen hY
    have Q1 := Lib.hid e1; clear e1
    have Q2 := Lib.hid e2; clear e2
    have Q3 := Lib.hid e3; clear e3
    have Q4 := Lib.hid e4; clear e4
    go_enter Tryz.func5, Tryz.ntmps5
    go_wp2_with fail
    refine Hcall.out.mono ?_
    rintro e w0 ⟨g1, c1, g2, c2, rfl, hoX, hoW, hb0⟩
    have hB0 := hb0
    go_wp2_with fail
    refine (HFv.out w0 hB0).mono ?_
    rintro e w1 ⟨rfl, hb1⟩
    have hB1 := hB0.trans (hb1.mono hB0.size)
    have hoX := hoX.below hb1 hoX.lt
    have hoW := hoW.below hb1 hoW.lt
    go_wp2_with fail
    refine (HFw.out w1 _ g2 c2 hoW).mono ?_
    rintro e w2 ⟨rfl, hb2⟩
    have hB2 := hB1.trans (hb2.mono hB1.size)
    have hoX := hoX.below hb2 hoX.lt
    go_wp2_with fail
    refine (HFx.out w2 _ g1 c1 hoX).mono ?_
    rintro e w3 ⟨rfl, hb3⟩
    have hB3 := hB2.trans (hb3.mono hB2.size)
    have hoX := hoX.below hb3 hoX.lt
    go_wp2_with fail
    refine (HD.out w3 _ g1 c1 hB3 hoX).mono ?_
    rintro e w4 ⟨rfl, hb4⟩
    have hB4 := hB3.trans (hb4.mono hB3.size)
    have hoX := hoX.below hb4 hoX.lt
    cases dm with
    | false =>
      go_wp2_with fail
      refine (HO.out w4 hB4).mono ?_
      rintro e w5 ⟨gq5, cq5, rq5, rfl, -, -, hb5⟩
      have hB5 := hB4.trans (hb5.mono hB4.size)
      have hoX := hoX.below hb5 hoX.lt
      cases b with
      | false =>
        have hh := H1.out
        have ee := Q4.out
        obtain ⟨s5, e5, q5⟩ := addE (A ++ [32, 105, 115, 32] ++ B ++ [32, 111, 102, 32] ++ C) s4 ee Y (by simp only [List.length_append, List.length_cons, List.length_nil]; omega)
        have Q5 := Lib.hid e5; clear e5 ee hh
        go_wp2_with fail
        refine (HMn.out w5 _ g1 c1 hB5 hoX).mono ?_
        rintro e w6 ⟨rfl, hb6⟩
        have hB6 := hB5.trans (hb6.mono hB5.size)
        go_wp2_with fail
        refine (HY.out w6).mono ?_
        rintro e wY ⟨rfl, mY, rfl⟩
        have hBY := below_drewN hB6 mY
        go_wp2_with fail
        go_ret
        refine ⟨?_, hBY⟩
        rw [Q5.out, ← HYe.out]
        simp [wtS]
      | true =>
        have hh := H1.out
        have ee := Q4.out
        obtain ⟨s5, e5, q5⟩ := addE (A ++ [32, 105, 115, 32] ++ B ++ [32, 111, 102, 32] ++ C) s4 ee [32, 111, 114, 98, 105, 116, 32] (by simp only [List.length_append, List.length_cons, List.length_nil]; omega)
        obtain ⟨s6, e6, q6⟩ := addE (A ++ [32, 105, 115, 32] ++ B ++ [32, 111, 102, 32] ++ C ++ [32, 111, 114, 98, 105, 116, 32]) s5 e5 E (by simp only [List.length_append, List.length_cons, List.length_nil]; omega)
        have Q6 := Lib.hid e6; clear e5 e6 ee hh
        go_wp2_with fail
        refine (HI2.out w5).mono ?_
        rintro e w7 ⟨rfl, hb7⟩
        have hB7 := hB5.trans (hb7.mono hB5.size)
        have hoX := hoX.below hb7 hoX.lt
        have hh := H1.out
        have ee := Q6.out
        obtain ⟨s7, e7, q7⟩ := addE (A ++ [32, 105, 115, 32] ++ B ++ [32, 111, 102, 32] ++ C ++ [32, 111, 114, 98, 105, 116, 32] ++ E) s6 ee Y (by simp only [List.length_append, List.length_cons, List.length_nil]; omega)
        have Q7 := Lib.hid e7; clear e7 ee hh
        go_wp2_with fail
        refine (HMn.out w7 _ g1 c1 hB7 hoX).mono ?_
        rintro e w8 ⟨rfl, hb8⟩
        have hB8 := hB7.trans (hb8.mono hB7.size)
        go_wp2_with fail
        refine (HY.out w8).mono ?_
        rintro e wY ⟨rfl, mY, rfl⟩
        have hBY := below_drewN hB8 mY
        go_wp2_with fail
        go_ret
        refine ⟨?_, hBY⟩
        rw [Q7.out, ← HYe.out]
        simp [wtS]
    | true =>
      have hh := H1.out
      have ee := Q4.out
      obtain ⟨s5, e5, q5⟩ := addE (A ++ [32, 105, 115, 32] ++ B ++ [32, 111, 102, 32] ++ C) s4 ee [32, 100, 105, 109, 101, 110, 115, 105, 111, 110, 32] (by simp only [List.length_append, List.length_cons, List.length_nil]; omega)
      obtain ⟨s6, e6, q6⟩ := addE (A ++ [32, 105, 115, 32] ++ B ++ [32, 111, 102, 32] ++ C ++ [32, 100, 105, 109, 101, 110, 115, 105, 111, 110, 32]) s5 e5 D (by simp only [List.length_append, List.length_cons, List.length_nil]; omega)
      have Q6 := Lib.hid e6; clear e5 e6 ee hh
      go_wp2_with fail
      refine (HI1.out w4).mono ?_
      rintro e w9 ⟨rfl, hb9⟩
      have hB9 := hB4.trans (hb9.mono hB4.size)
      have hoX := hoX.below hb9 hoX.lt
      go_wp2_with fail
      refine (HO.out w9 hB9).mono ?_
      rintro e w10 ⟨gq10, cq10, rq10, rfl, -, -, hb10⟩
      have hB10 := hB9.trans (hb10.mono hB9.size)
      have hoX := hoX.below hb10 hoX.lt
      cases b with
      | false =>
        have hh := H1.out
        have ee := Q6.out
        obtain ⟨s7, e7, q7⟩ := addE (A ++ [32, 105, 115, 32] ++ B ++ [32, 111, 102, 32] ++ C ++ [32, 100, 105, 109, 101, 110, 115, 105, 111, 110, 32] ++ D) s6 ee Y (by simp only [List.length_append, List.length_cons, List.length_nil]; omega)
        have Q7 := Lib.hid e7; clear e7 ee hh
        go_wp2_with fail
        refine (HMn.out w10 _ g1 c1 hB10 hoX).mono ?_
        rintro e w11 ⟨rfl, hb11⟩
        have hB11 := hB10.trans (hb11.mono hB10.size)
        go_wp2_with fail
        refine (HY.out w11).mono ?_
        rintro e wY ⟨rfl, mY, rfl⟩
        have hBY := below_drewN hB11 mY
        go_wp2_with fail
        go_ret
        refine ⟨?_, hBY⟩
        rw [Q7.out, ← HYe.out]
        simp [wtS]
      | true =>
        have hh := H1.out
        have ee := Q6.out
        obtain ⟨s7, e7, q7⟩ := addE (A ++ [32, 105, 115, 32] ++ B ++ [32, 111, 102, 32] ++ C ++ [32, 100, 105, 109, 101, 110, 115, 105, 111, 110, 32] ++ D) s6 ee [32, 111, 114, 98, 105, 116, 32] (by simp only [List.length_append, List.length_cons, List.length_nil]; omega)
        obtain ⟨s8, e8, q8⟩ := addE (A ++ [32, 105, 115, 32] ++ B ++ [32, 111, 102, 32] ++ C ++ [32, 100, 105, 109, 101, 110, 115, 105, 111, 110, 32] ++ D ++ [32, 111, 114, 98, 105, 116, 32]) s7 e7 E (by simp only [List.length_append, List.length_cons, List.length_nil]; omega)
        have Q8 := Lib.hid e8; clear e7 e8 ee hh
        go_wp2_with fail
        refine (HI2.out w10).mono ?_
        rintro e w12 ⟨rfl, hb12⟩
        have hB12 := hB10.trans (hb12.mono hB10.size)
        have hoX := hoX.below hb12 hoX.lt
        have hh := H1.out
        have ee := Q8.out
        obtain ⟨s9, e9, q9⟩ := addE (A ++ [32, 105, 115, 32] ++ B ++ [32, 111, 102, 32] ++ C ++ [32, 100, 105, 109, 101, 110, 115, 105, 111, 110, 32] ++ D ++ [32, 111, 114, 98, 105, 116, 32] ++ E) s8 ee Y (by simp only [List.length_append, List.length_cons, List.length_nil]; omega)
        have Q9 := Lib.hid e9; clear e9 ee hh
        go_wp2_with fail
        refine (HMn.out w12 _ g1 c1 hB12 hoX).mono ?_
        rintro e w13 ⟨rfl, hb13⟩
        have hB13 := hB12.trans (hb13.mono hB12.size)
        go_wp2_with fail
        refine (HY.out w13).mono ?_
        rintro e wY ⟨rfl, mY, rfl⟩
        have hBY := below_drewN hB13 mY
        go_wp2_with fail
        go_ret
        refine ⟨?_, hBY⟩
        rw [Q9.out, ← HYe.out]
        simp [wtS]
  · have hcall := spec_DominantOf_none gc oc _ cc g o _ cp c v w rfl rfl hx hl hrl hw hgc hr hv
    rw [if_neg hw]
    have Hcall := Lib.hid hcall
    clear hcall hr hv hrl hx hl hw
    go_enter Tryz.func5, Tryz.ntmps5
    go_wp2_with fail
    refine Hcall.out.mono ?_
    rintro e w1 ⟨g1, g2, rfl, hb1⟩
    go_wp2_with fail
    go_ret
    exact ⟨rfl, hb1⟩

set_option maxHeartbeats 600000 in
theorem impl_WeightLine_any (gc oc n cc g o m cp : Nat) (c : List (List Int)) (v : List Int) (M : List (List Int)) (b : Bool) (w : World) (hn : c.length = n) (hm : v.length = m) (hM : OrbM c v M b) (hx : c.length ≤ 1048576) (hrl : ∀ j, j < c.length → (c.getD j []).length ≤ 1048576) (hl : v.length ≤ 1048576)
    (hgc : gc < w.heap.size) (hg : g < w.heap.size) (hr : Rows2 w gc oc c) (hv : Cells w g o v) (ht : Tab w) :
    Calls Tryz.prog 8 #[(Value.slice (some ⟨gc, oc, none⟩) n cc), (Value.slice (some ⟨g, o, none⟩) m cp)] w (Gives w (.string ⟨(weightLineL c v M.length b).toArray⟩)) := by
  subst hn; subst hm
  unfold weightLineL
  by_cases hw : wlOk c v
  · have hD := Game.DomW.of hw.1 hw.2
    have hcall : Calls Tryz.prog 20 #[(Value.slice (some ⟨gc, oc, none⟩) c.length cc), (Value.slice (some ⟨g, o, none⟩) v.length cp)] w (fun e w' => ∃ g1 c1 g2 c2, e = .returned (.tuple #[(Value.slice (some ⟨g1, 0, none⟩) c.length c1), (Value.slice (some ⟨g2, 0, none⟩) ((topW c v).length) c2), .bool true]) ∧ Own w' w.heap.size g1 c1 (topX c v) ∧ Own w' w.heap.size g2 c2 (intsOf (topW c v)) ∧ Below w.heap.size w w') := impl_DominantOf_top gc oc _ cc g o _ cp c v w rfl rfl hD hgc hg hr hv
    rw [if_pos hw]
    have hT := topOk hD
    have hTe := hT.1.end_
    have hx4 : (topX c v).length = c.length := hTe.1
    have hC4 := hD.hC.2.1
    have hvl := hD.len
    have hi64v : I64s v := i64s_orb hD (OrbP.self hD.len)
    have hi64x : I64s (topX c v) := i64s_orb hD hTe
    obtain ⟨hd0, hd1⟩ := dim_small c (topX c v)
    have hMf := orbM_few hM
    have hwf1 := wf_i64 (x := dimL c (topX c v)) (by omega) hd1
    have hwf2 := wf_i64 (x := (M.length : Int)) (by omega) (by omega)
    have hsW : (intsOf (topW c v)).length = (topW c v).length := intsOf_length _
    have hA : (weightL v).length ≤ 100 := by have := weightL_len hi64v; omega
    have hB : (wordL (intsOf (topW c v))).length ≤ 100 := wordL_short (by rw [hsW]; have := hT.2; omega)
    have hCc : (weightL (topX c v)).length ≤ 100 := by have := weightL_len hi64x; omega
    have hDd : (itoa (dimL c (topX c v))).length ≤ 100 := by have := Lib.itoa_length_le (dimL c (topX c v)) (by omega) hd1; omega
    have hEe : (itoa (M.length : Int)).length ≤ 100 := by have := Lib.itoa_length_le (M.length : Int) (by omega) (by omega); omega
    have hlen := fun dm ob mn => wtS_len hA hB hCc hDd hEe dm ob mn
    have HFv := Lib.hid (fun W (hb : Below w.heap.size w W) (hT : Tab W) => impl_FormatWeight_any g o _ cp v W rfl (by omega) hi64v (Nat.lt_of_lt_of_le hg hb.size) (hv.below hb hg) hT)
    have HFw := Lib.hid (fun W B g2 c2 (h : Own W B g2 c2 (intsOf (topW c v))) => impl_FormatWord_any g2 0 (topW c v).length c2 (intsOf (topW c v)) W hsW (by rw [hsW]; have := hT.2; omega) h.lt h.cells)
    have HFx := Lib.hid (fun W B g2 c2 (h : Own W B g2 c2 (topX c v)) (hTt : Tab W) => impl_FormatWeight_any g2 0 c.length c2 (topX c v) W hx4 (by omega) hi64x h.lt h.cells hTt)
    have HD := Lib.hid (fun W B g2 c2 (hb : Below w.heap.size w W) (h : Own W B g2 c2 (topX c v)) => impl_WeylDimension_any gc oc _ cc g2 0 c.length c2 c (topX c v) W rfl hx4 hx (by omega) hrl (Nat.lt_of_lt_of_le hgc hb.size) h.lt (hr.below hb hgc) h.cells)
    have HO := Lib.hid (fun W (hb : Below w.heap.size w W) => impl_OrbitOf_dom gc oc _ cc g o _ cp c v M b W rfl rfl hD hM (Nat.lt_of_lt_of_le hgc hb.size) (Nat.lt_of_lt_of_le hg hb.size) (hr.below hb hgc) (hv.below hb hg))
    have HMn := Lib.hid (fun W B g2 c2 (hb : Below w.heap.size w W) (h : Own W B g2 c2 (topX c v)) => impl_IsMinuscule_any gc oc _ cc g2 0 c.length c2 c (topX c v) W rfl hx4 hx4 hx hrl (Nat.lt_of_lt_of_le hgc hb.size) h.lt (hr.below hb hgc) h.cells)
    have HI1 := Lib.hid (fun W (hT : Tab W) => impl_FormatInt_any (dimL c (topX c v)) hwf1 W hT)
    have HI2 := Lib.hid (fun W (hT : Tab W) => impl_FormatInt_any (M.length : Int) hwf2 W hT)
    have Hcall := Lib.hid hcall; have Ht := Lib.hid ht
    have hdv : dimV c (topX c v) = .tuple #[.int .i64 (dimL c (topX c v)), .bool (dimB c (topX c v))] := rfl
    rw [hdv] at HD
    have hfew : M.length ≤ 200 := hMf
    clear hcall hT hTe hx4 hC4 hvl hi64v hi64x hd0 hd1 hMf hwf1 hwf2 hsW hA hB hCc hDd hEe hr hv hrl hx hl hD hM hw hdv ht
    generalize weightL v = A at *
    generalize wordL (intsOf (topW c v)) = B at *
    generalize weightL (topX c v) = C at *
    generalize itoa (dimL c (topX c v)) = D at *
    generalize itoa (M.length : Int) = E at *
    generalize dimL c (topX c v) = dl at *
    generalize dimB c (topX c v) = dm at *
    generalize minB c (topX c v) = mn at *
    generalize topX c v = X at *
    generalize hWl : (topW c v).length = nW at *
    generalize intsOf (topW c v) = Wd at *
    clear hWl
    have HJ : Hid (∀ dm ob mn, (join (wtParts A B C D E dm ob mn) [32]).length ≤ 140737488355328) := fun dm ob mn => by rw [← wtS_eq]; exact Nat.le_trans (hlen dm ob mn) (by decide)
    have HJn : Hid (∀ W B2 g2 cap dm ob mn n2, (wtParts A B C D E dm ob mn).length = n2 → n2 ≤ 100 → OwnStrs W B2 g2 cap (strs (wtParts A B C D E dm ob mn)) → Calls Tryz.prog 27 #[(Value.slice (some ⟨g2, 0, none⟩) n2 cap)] W (Gives W (.string ⟨(join (wtParts A B C D E dm ob mn) [32]).toArray⟩))) := fun W B2 g2 cap dm ob mn n2 h1 h2 h3 => impl_line_any h3 h1 (by omega) (HJ.out dm ob mn)
    have H5 : Hid (∀ W : World, OwnStrs (W.alloc (.cells #[.string ⟨A.toArray⟩, .string ⟨#[105, 115]⟩, .string ⟨B.toArray⟩, .string ⟨#[111, 102]⟩, .string ⟨C.toArray⟩] 9)) W.heap.size W.heap.size 5 (strs (wtParts A B C D E false false false))) := fun W => own_five W W.heap.size A B C (Nat.le_refl _)
    clear hlen HJ
    go_enter Tryz.func8, Tryz.ntmps8
    go_wp2_with fail
    refine Hcall.out.mono ?_
    rintro e w0 ⟨g1, c1, g2, c2, rfl, hoX, hoW, hb0⟩
    have hB0 := hb0
    go_wp2_with fail
    refine (HFv.out w0 hB0 (Ht.out.below hB0)).mono ?_
    rintro e w1 ⟨rfl, hb1⟩
    have hB1 := hB0.trans (hb1.mono hB0.size)
    have hoX := hoX.below hb1 hoX.lt
    have hoW := hoW.below hb1 hoW.lt
    go_wp2_with fail
    refine (HFw.out w1 _ g2 c2 hoW).mono ?_
    rintro e w2 ⟨rfl, hb2⟩
    have hB2 := hB1.trans (hb2.mono hB1.size)
    have hoX := hoX.below hb2 hoX.lt
    go_wp2_with fail
    refine (HFx.out w2 _ g1 c1 hoX (Ht.out.below hB2)).mono ?_
    rintro e w3 ⟨rfl, hb3⟩
    have hB3 := hB2.trans (hb3.mono hB2.size)
    have hoX := hoX.below hb3 hoX.lt
    have hS := H5.out w3
    have hX5 := hB3.alloc hB3.size (.cells #[.string ⟨A.toArray⟩, .string ⟨#[105, 115]⟩, .string ⟨B.toArray⟩, .string ⟨#[111, 102]⟩, .string ⟨C.toArray⟩] 9)
    have hgx := hoX.lt
    have hoX := hoX.alloc (.cells #[.string ⟨A.toArray⟩, .string ⟨#[105, 115]⟩, .string ⟨B.toArray⟩, .string ⟨#[111, 102]⟩, .string ⟨C.toArray⟩] 9)
    have hszW := hB3.size
    clear hb1 hb2 hb3 Hcall HFv HFw HFx H5
    go_wp2_with fail
    refine (HD.out _ _ g1 c1 hX5 hoX).mono ?_
    rintro e w4 ⟨rfl, hb4⟩
    have hB4 := hX5.trans (hb4.mono hX5.size)
    have hoX := hoX.below hb4 hoX.lt
    have hS := OwnK.below hS hb4 (OwnK.lt hS)
    cases dm with
    | false =>
      go_wp2_with fail
      refine (HO.out w4 hB4).mono ?_
      rintro e w5 ⟨gq5, cq5, rq5, rfl, -, -, hb5⟩
      have hB5 := hB4.trans (hb5.mono hB4.size)
      have hoX := hoX.below hb5 hoX.lt
      have hS := OwnK.below hS hb5 (OwnK.lt hS)
      cases b with
      | false =>
        go_wp2_with fail
        refine (HMn.out w5 _ g1 c1 hB5 hoX).mono ?_
        rintro e w6 ⟨rfl, hb6⟩
        have hB6 := hB5.trans (hb6.mono hB5.size)
        have hS := OwnK.below hS hb6 (OwnK.lt hS)
        cases mn with
        | false =>
          go_wp2_with fail
          refine (HJn.out w6 _ w3.heap.size 5 false false false 5 rfl (by decide) hS).mono ?_
          rintro e w7 ⟨rfl, hb7⟩
          have hB7 := hB6.trans (hb7.mono hB6.size)
          go_wp2_with fail
          go_ret
          exact ⟨rfl, hB7⟩
        | true =>
          have hfS := OwnK.base hS
          go_wp2_with (at_builtin; refine wpList_append_S1 rfl _ _ rfl w3.heap.size w3.heap.size 5 5 w6.heap.size (wtParts A B C D E false false false) [109, 105, 110, 117, 115, 99, 117, 108, 101] w6 _ rfl rfl rfl hS rfl rfl (by omega) ?_)
          intro g8 c8 w8 hS hg8
          have hB8 : Below w.heap.size w w8 := hB6.grown hg8 hB6.size (by intro j hj; cases hj; omega)
          go_wp2_with fail
          refine (HJn.out w8 _ g8 c8 false false true 6 rfl (by decide) hS).mono ?_
          rintro e w9 ⟨rfl, hb9⟩
          have hB9 := hB8.trans (hb9.mono hB8.size)
          go_wp2_with fail
          go_ret
          exact ⟨rfl, hB9⟩
      | true =>
        go_wp2_with fail
        refine (HI2.out w5 (Ht.out.below hB5)).mono ?_
        rintro e w10 ⟨rfl, hb10⟩
        have hB10 := hB5.trans (hb10.mono hB5.size)
        have hoX := hoX.below hb10 hoX.lt
        have hS := OwnK.below hS hb10 (OwnK.lt hS)
        have hfS := OwnK.base hS
        go_wp2_with (at_builtin; refine wpList_append_S2 rfl _ _ rfl w3.heap.size w3.heap.size 5 5 w10.heap.size (wtParts A B C D E false false false) [111, 114, 98, 105, 116] E w10 _ rfl rfl rfl hS rfl rfl (by omega) ?_)
        intro g11 c11 w11 hS hg11
        have hB11 : Below w.heap.size w w11 := hB10.grown hg11 hB10.size (by intro j hj; cases hj; omega)
        have hoX := hoX.grown hg11 (by intro e; cases e; omega)
        go_wp2_with fail
        refine (HMn.out w11 _ g1 c1 hB11 hoX).mono ?_
        rintro e w12 ⟨rfl, hb12⟩
        have hB12 := hB11.trans (hb12.mono hB11.size)
        have hS := OwnK.below hS hb12 (OwnK.lt hS)
        cases mn with
        | false =>
          go_wp2_with fail
          refine (HJn.out w12 _ g11 c11 false true false 7 rfl (by decide) hS).mono ?_
          rintro e w13 ⟨rfl, hb13⟩
          have hB13 := hB12.trans (hb13.mono hB12.size)
          go_wp2_with fail
          go_ret
          exact ⟨rfl, hB13⟩
        | true =>
          have hfS := OwnK.base hS
          go_wp2_with (at_builtin; refine wpList_append_S1 rfl _ _ rfl w3.heap.size g11 c11 7 w12.heap.size (wtParts A B C D E false true false) [109, 105, 110, 117, 115, 99, 117, 108, 101] w12 _ rfl rfl rfl hS rfl rfl (by omega) ?_)
          intro g14 c14 w14 hS hg14
          have hB14 : Below w.heap.size w w14 := hB12.grown hg14 hB12.size (by intro j hj; cases hj; omega)
          go_wp2_with fail
          refine (HJn.out w14 _ g14 c14 false true true 8 rfl (by decide) hS).mono ?_
          rintro e w15 ⟨rfl, hb15⟩
          have hB15 := hB14.trans (hb15.mono hB14.size)
          go_wp2_with fail
          go_ret
          exact ⟨rfl, hB15⟩
    | true =>
      go_wp2_with fail
      refine (HI1.out w4 (Ht.out.below hB4)).mono ?_
      rintro e w16 ⟨rfl, hb16⟩
      have hB16 := hB4.trans (hb16.mono hB4.size)
      have hoX := hoX.below hb16 hoX.lt
      have hS := OwnK.below hS hb16 (OwnK.lt hS)
      have hfS := OwnK.base hS
      go_wp2_with (at_builtin; refine wpList_append_S2 rfl _ _ rfl w3.heap.size w3.heap.size 5 5 w16.heap.size (wtParts A B C D E false false false) [100, 105, 109, 101, 110, 115, 105, 111, 110] D w16 _ rfl rfl rfl hS rfl rfl (by omega) ?_)
      intro g17 c17 w17 hS hg17
      have hB17 : Below w.heap.size w w17 := hB16.grown hg17 hB16.size (by intro j hj; cases hj; omega)
      have hoX := hoX.grown hg17 (by intro e; cases e; omega)
      go_wp2_with fail
      refine (HO.out w17 hB17).mono ?_
      rintro e w18 ⟨gq18, cq18, rq18, rfl, -, -, hb18⟩
      have hB18 := hB17.trans (hb18.mono hB17.size)
      have hoX := hoX.below hb18 hoX.lt
      have hS := OwnK.below hS hb18 (OwnK.lt hS)
      cases b with
      | false =>
        go_wp2_with fail
        refine (HMn.out w18 _ g1 c1 hB18 hoX).mono ?_
        rintro e w19 ⟨rfl, hb19⟩
        have hB19 := hB18.trans (hb19.mono hB18.size)
        have hS := OwnK.below hS hb19 (OwnK.lt hS)
        cases mn with
        | false =>
          go_wp2_with fail
          refine (HJn.out w19 _ g17 c17 true false false 7 rfl (by decide) hS).mono ?_
          rintro e w20 ⟨rfl, hb20⟩
          have hB20 := hB19.trans (hb20.mono hB19.size)
          go_wp2_with fail
          go_ret
          exact ⟨rfl, hB20⟩
        | true =>
          have hfS := OwnK.base hS
          go_wp2_with (at_builtin; refine wpList_append_S1 rfl _ _ rfl w3.heap.size g17 c17 7 w19.heap.size (wtParts A B C D E true false false) [109, 105, 110, 117, 115, 99, 117, 108, 101] w19 _ rfl rfl rfl hS rfl rfl (by omega) ?_)
          intro g21 c21 w21 hS hg21
          have hB21 : Below w.heap.size w w21 := hB19.grown hg21 hB19.size (by intro j hj; cases hj; omega)
          go_wp2_with fail
          refine (HJn.out w21 _ g21 c21 true false true 8 rfl (by decide) hS).mono ?_
          rintro e w22 ⟨rfl, hb22⟩
          have hB22 := hB21.trans (hb22.mono hB21.size)
          go_wp2_with fail
          go_ret
          exact ⟨rfl, hB22⟩
      | true =>
        go_wp2_with fail
        refine (HI2.out w18 (Ht.out.below hB18)).mono ?_
        rintro e w23 ⟨rfl, hb23⟩
        have hB23 := hB18.trans (hb23.mono hB18.size)
        have hoX := hoX.below hb23 hoX.lt
        have hS := OwnK.below hS hb23 (OwnK.lt hS)
        have hfS := OwnK.base hS
        go_wp2_with (at_builtin; refine wpList_append_S2 rfl _ _ rfl w3.heap.size g17 c17 7 w23.heap.size (wtParts A B C D E true false false) [111, 114, 98, 105, 116] E w23 _ rfl rfl rfl hS rfl rfl (by omega) ?_)
        intro g24 c24 w24 hS hg24
        have hB24 : Below w.heap.size w w24 := hB23.grown hg24 hB23.size (by intro j hj; cases hj; omega)
        have hoX := hoX.grown hg24 (by intro e; cases e; omega)
        go_wp2_with fail
        refine (HMn.out w24 _ g1 c1 hB24 hoX).mono ?_
        rintro e w25 ⟨rfl, hb25⟩
        have hB25 := hB24.trans (hb25.mono hB24.size)
        have hS := OwnK.below hS hb25 (OwnK.lt hS)
        cases mn with
        | false =>
          go_wp2_with fail
          refine (HJn.out w25 _ g24 c24 true true false 9 rfl (by decide) hS).mono ?_
          rintro e w26 ⟨rfl, hb26⟩
          have hB26 := hB25.trans (hb26.mono hB25.size)
          go_wp2_with fail
          go_ret
          exact ⟨rfl, hB26⟩
        | true =>
          have hfS := OwnK.base hS
          go_wp2_with (at_builtin; refine wpList_append_S1 rfl _ _ rfl w3.heap.size g24 c24 9 w25.heap.size (wtParts A B C D E true true false) [109, 105, 110, 117, 115, 99, 117, 108, 101] w25 _ rfl rfl rfl hS rfl rfl (by omega) ?_)
          intro g27 c27 w27 hS hg27
          have hB27 : Below w.heap.size w w27 := hB25.grown hg27 hB25.size (by intro j hj; cases hj; omega)
          go_wp2_with fail
          refine (HJn.out w27 _ g27 c27 true true true 10 rfl (by decide) hS).mono ?_
          rintro e w28 ⟨rfl, hb28⟩
          have hB28 := hB27.trans (hb28.mono hB27.size)
          go_wp2_with fail
          go_ret
          exact ⟨rfl, hB28⟩
  · have hcall := impl_DominantOf_none gc oc _ cc g o _ cp c v w rfl rfl hx hl hrl hw hgc hr hv
    rw [if_neg hw]
    have Hcall := Lib.hid hcall
    clear hcall hr hv hrl hx hl hw ht
    go_enter Tryz.func8, Tryz.ntmps8
    go_wp2_with fail
    refine Hcall.out.mono ?_
    rintro e w1 ⟨g1, g2, rfl, hb1⟩
    go_wp2_with fail
    go_ret
    exact ⟨rfl, hb1⟩

end Go.Proofs.YtmjneokgnnbekaaGreatDoor
