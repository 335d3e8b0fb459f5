/- WordLine of both: contracts. Printed by wip/mkwl.py. -/
import Derived.Test.YtjhoimdfmcjkbaaGreatDoorG26
import Derived.Test.YtjhoimdfmcjkbaaGreatDoorG43
import Derived.Test.YtjhoimdfmcjkbaaGreatDoorG45
import Derived.Test.YtjhoimdfmcjkbaaGreatDoorG40
import Derived.Test.YtjhoimdfmcjkbaaGreatDoorG42
import Derived.Test.YtjhoimdfmcjkbaaGreatDoorG37
import Derived.Test.YtjhoimdfmcjkbaaGreatDoorG47
import Derived.Test.YtjhoimdfmcjkbaaGreatDoorG49
import Derived.Test.YtjhoimdfmcjkbaaGreatDoorG41
namespace Go.Proofs.YtjhoimdfmcjkbaaGreatDoor
set_option maxRecDepth 100000
open Go.RowKit Game
open Go.Lib (join decDigits itoa)

def lwParts (A B C D E F : List UInt8) (red rw ab : Bool) : List (List UInt8) :=
  [A, [105, 115], B, [108, 101, 102, 116], C, [114, 105, 103, 104, 116], D] ++ cond red [[114, 101, 100, 117, 99, 101, 100]] [] ++ cond rw [[119, 111, 114, 100, 115], E] [] ++ cond ab [[114, 101, 102, 108, 101, 99, 116, 105, 111, 110, 115], F] []
def lwS (A B C D E F : List UInt8) (red rw ab : Bool) : List UInt8 :=
  A ++ [32, 105, 115, 32] ++ B ++ [32, 108, 101, 102, 116, 32] ++ C ++ [32, 114, 105, 103, 104, 116, 32] ++ D ++ cond red [32, 114, 101, 100, 117, 99, 101, 100] [] ++ cond rw ([32, 119, 111, 114, 100, 115, 32] ++ E) [] ++ cond ab ([32, 114, 101, 102, 108, 101, 99, 116, 105, 111, 110, 115, 32] ++ F) []
theorem lwS_eq (A B C D E F : List UInt8) (red rw ab : Bool) : lwS A B C D E F red rw ab = join (lwParts A B C D E F red rw ab) [32] := by
  cases red <;> cases rw <;> cases ab <;> simp [lwS, lwParts, join, List.intercalate, List.intersperse]
theorem lwS_len {A B C D E F : List UInt8} (hA : A.length ≤ 100) (hB : B.length ≤ 100) (hC : C.length ≤ 100) (hD : D.length ≤ 100) (hE : E.length ≤ 100) (hF : F.length ≤ 100) (red rw ab : Bool) : (lwS A B C D E F red rw ab).length ≤ 1000 := by
  cases red <;> cases rw <;> cases ab <;> simp only [lwS, cond_true, cond_false, List.length_append, List.length_cons, List.length_nil] <;> omega
/-- the line -/
def wordLineL (c : List (List Int)) (v : List Int) : List UInt8 :=
  if isWordB c v = true then join (lwParts (wordL v) (wordL (nfI c v)) (wordL (leftA c v)) (wordL (leftA c v.reverse)) (itoa ((rwL c v).length : Int)) (itoa (absA c v)) (redW c v) (rwB c v) (decide (0 ≤ absA c v))) [32] else []
theorem wordL_short {l : List Int} (h : l.length ≤ 50) : (wordL l).length ≤ 100 := by
  unfold wordL
  split
  · simp
  · split
    · unfold digs; rw [List.length_map]; omega
    · simp
theorem leftA_short {c : List (List Int)} (hC : c.length ≤ 4) (v : List Int) : (leftA c v).length ≤ 4 := by
  unfold leftA
  split
  · have h := desTo_len (imI c v) (imI c v).length
    rw [imI_length] at h
    unfold descI
    rw [imI_length]
    omega
  · simp
theorem rwL_short (c : List (List Int)) (v : List Int) : (rwL c v).length ≤ 120 := by
  unfold rwL
  split
  · split
    · assumption
    · simp
  · simp
theorem wf_1000 {x : Int} (h : -1 ≤ x) (h2 : x ≤ 1000) : (Lit.int .i64 x).wf = true := by
  simp [Lit.wf, IntKind.min, IntKind.max, IntKind.signed, IntKind.bits]
  omega
theorem itoa_short {x : Int} (h : -1 ≤ x) (h2 : x ≤ 1000) : (itoa x).length ≤ 100 := by
  have := Lib.itoa_length_le x (by omega) (by omega)
  omega
theorem absA_small {c : List (List Int)} (hC : c.length ≤ 4) (v : List Int) : -1 ≤ absA c v ∧ absA c v ≤ 1000 := by
  have := absN_le c v
  unfold absA
  split <;> omega
theorem addE (a : List UInt8) (s : Array UInt8) (hs : s = a.toArray) (b : List UInt8) (h : (a ++ b).length ≤ 9223372036854775807) : ∃ s2 : Array UInt8, s2 = (a ++ b).toArray ∧ ∀ W, (Op.stringOp .add ⟨s⟩ ⟨b.toArray⟩).run Tryz.prog W = .ok (.string ⟨s2⟩) W := by
  subst hs
  exact ⟨_, rfl, fun W => addS W a b _ rfl h⟩
theorem spec_l35Yes_any (b : Bool) (s : List UInt8) (w : World) : Calls Tryz.prog 16 #[.bool b, .string ⟨s.toArray⟩] w (Reads w (.string ⟨(cond b s []).toArray⟩)) := by
  cases b with
  | true =>
    go_enter Tryz.func16, Tryz.ntmps16
    go_wp2
    go_ret
    exact ⟨rfl, 0, rfl⟩
  | false =>
    go_enter Tryz.func16, Tryz.ntmps16
    go_wp2
    go_ret
    exact ⟨rfl, 0, rfl⟩

section
variable {ops : Array Oper} {rest : List Oper} {o : Oper} {a : Act} {Q : Exit → Act → World → Prop}
/-- 'append(words, a)' -/
theorem wpList_append_S1 (hgd : o.guard = none) (s x : Operand)
    (ho : o.op = .call { callee := .builtin .append, args := #[s, x], argTypes := #[41, 41] })
    (B g cap n H : Nat) (L : List (List UInt8)) (z : List UInt8) (w W : World) (hn : L.length = n) (hW : W = w.alloc (.cells #[.string ⟨z.toArray⟩] 9)) (hH : w.heap.size = H) (hown : OwnStrs w B g cap (strs L))
    (hs : a.eval s = (Value.slice (some ⟨g, 0, none⟩) n cap)) (hx : a.eval x = (Value.slice (some ⟨H, 0, none⟩) 1 1)) (hlen : n + 1 ≤ 1048576)
    (h : ∀ g' cap' w', OwnStrs w' B g' cap' (strs (L ++ [z])) → w.grownBy w' (some g) → wpList Tryz.prog ops Q rest (a.put o.dst (Value.slice (some ⟨g', 0, none⟩) (n + 1) cap')) w') :
    wpList Tryz.prog ops Q (o :: rest) a W :=
  wpList_append_str hgd s x ho B g cap n H (strs L) ⟨z.toArray⟩ w W (by simpa [strs] using hn) hW hH hown hs hx hlen (fun g' cap' w' h1 h2 _ => h g' cap' w' (by simpa [strs] using h1) h2)
/-- 'append(words, a, b)' -/
theorem wpList_append_S2 (hgd : o.guard = none) (s x : Operand)
    (ho : o.op = .call { callee := .builtin .append, args := #[s, x], argTypes := #[41, 41] })
    (B g cap n H : Nat) (L : List (List UInt8)) (y z : List UInt8) (w W : World) (hn : L.length = n) (hW : W = w.alloc (.cells #[.string ⟨y.toArray⟩, .string ⟨z.toArray⟩] 9)) (hH : w.heap.size = H) (hown : OwnStrs w B g cap (strs L))
    (hs : a.eval s = (Value.slice (some ⟨g, 0, none⟩) n cap)) (hx : a.eval x = (Value.slice (some ⟨H, 0, none⟩) 2 2)) (hlen : n + 2 ≤ 1048576)
    (h : ∀ g' cap' w', OwnStrs w' B g' cap' (strs (L ++ [y, z])) → w.grownBy w' (some g) → wpList Tryz.prog ops Q rest (a.put o.dst (Value.slice (some ⟨g', 0, none⟩) (n + 2) cap')) w') :
    wpList Tryz.prog ops Q (o :: rest) a W := by
  subst hn; subst hW; subst hH
  have hnew : OwnStrs (w.alloc (.cells #[.string ⟨y.toArray⟩, .string ⟨z.toArray⟩] 9)) w.heap.size w.heap.size 2 [⟨y.toArray⟩, ⟨z.toArray⟩] := World.ownsRow_lit w #[.string ⟨y.toArray⟩, .string ⟨z.toArray⟩] 2 (Nat.le_refl _) (by decide) rfl
  have hls : (strs L).length = L.length := by simp [strs]
  refine wpList_append_K infoStr Tryz.underlying41 rfl (by decide) (by decide) hgd s x ho B g cap L.length ((strs L).map Value.string) (by rw [← hls]; exact OwnK.alloc hown _) w.heap.size 0 2 2 [.string ⟨y.toArray⟩, .string ⟨z.toArray⟩] rfl ?_ ?_ hs hx hlen ?_
  · intro j u hu
    have hj : j < 2 := by have := (List.getElem?_eq_some_iff.1 hu).1; simpa using this
    rcases (show j = 0 ∨ j = 1 by omega) with rfl | rfl
    · have := hnew.cell 0 _ rfl
      rw [this]; simpa using hu
    · have := hnew.cell 1 _ rfl
      rw [this]; simpa using hu
  · intro u hu
    simp at hu
    rcases hu with rfl | rfl <;> rfl
  · intro g' cap' w' h2 h3 h4
    refine h g' cap' w' ?_ ⟨h3.os, h3.tape, h3.output, Nat.le_trans (by simp) h3.size, fun k hk hne => (h3.block k (by simp; omega) hne).trans (Below.heap_alloc _ _ _ hk)⟩
    have e : strs (L ++ [y, z]) = strs L ++ [⟨y.toArray⟩, ⟨z.toArray⟩] := by simp [strs]
    unfold OwnStrs
    rw [e, List.map_append, List.length_append, hls]
    exact h2
end
theorem own_seven (w : World) (B : Nat) (A C D E : List UInt8) (hB : B ≤ w.heap.size) : OwnStrs (w.alloc (.cells #[.string ⟨A.toArray⟩, .string ⟨#[105, 115]⟩, .string ⟨C.toArray⟩, .string ⟨#[108, 101, 102, 116]⟩, .string ⟨D.toArray⟩, .string ⟨#[114, 105, 103, 104, 116]⟩, .string ⟨E.toArray⟩] 9)) B w.heap.size 7 (strs [A, [105, 115], C, [108, 101, 102, 116], D, [114, 105, 103, 104, 116], E]) :=
  World.ownsRow_lit w #[.string ⟨A.toArray⟩, .string ⟨#[105, 115]⟩, .string ⟨C.toArray⟩, .string ⟨#[108, 101, 102, 116]⟩, .string ⟨D.toArray⟩, .string ⟨#[114, 105, 103, 104, 116]⟩, .string ⟨E.toArray⟩] 7 hB (by decide) rfl

set_option maxHeartbeats 2000000 in
theorem spec_WordLine_any (gc oc n cc g o m cp : Nat) (c : List (List Int)) (v : List Int) (w : World) (hn : c.length = n) (hm : v.length = m) (hx : c.length ≤ 1048576) (hrl : ∀ j, j < c.length → (c.getD j []).length ≤ 1048576) (hl : v.length ≤ 1048576)
    (hgc : gc < w.heap.size) (hg : g < w.heap.size) (hr : Rows2 w gc oc c) (hv : Cells w g o v) :
    Calls Tryz.prog 5 #[(Value.slice (some ⟨gc, oc, none⟩) n cc), (Value.slice (some ⟨g, o, none⟩) m cp)] w (Gives w (.string ⟨(wordLineL c v).toArray⟩)) := by
  have hNF := spec_NormalForm_any gc oc n cc g o m cp c v w hn hm hx hrl hl hgc hg hr hv
  unfold wordLineL
  cases hw : isWordB c v with
  | false =>
    rw [hw] at hNF
    rw [if_neg (by decide)]
    have HNF := Lib.hid hNF; clear hNF hr hv hw
    generalize nfA c v = X at *
    go_enter Tryz.func5, Tryz.ntmps5
    go_wp2_with fail
    refine HNF.out.mono ?_
    rintro e w1 ⟨g1, c1, rfl, ho1, hb1⟩
    go_wp2_with fail
    go_ret
    exact ⟨rfl, hb1⟩
  | true =>
    rw [hw] at hNF
    rw [if_pos rfl, ← lwS_eq]
    rw [show nfA c v = nfI c v from if_pos hw] at hNF
    have hW := wordOk_of hw
    have hC4 := hW.isC.2.1
    have hnf : (nfI c v).length ≤ 50 := by have h1 := (nfI_ok (hW.lets.mono (show 15 ≤ 30 by omega))).len; have h2 := hW.few; omega
    have hv50 : v.length ≤ 50 := by have h2 := hW.few; omega
    have hl1 := leftA_short hC4 v
    have hl2 := leftA_short hC4 v.reverse
    have hrs := rwL_short c v
    obtain ⟨ha1, ha2⟩ := absA_small hC4 v
    have hwl := wf_1000 (x := ((rwL c v).length : Int)) (by omega) (by omega)
    have hwa := wf_1000 ha1 ha2
    have hlen := fun red rw ab => lwS_len (wordL_short hv50) (wordL_short hnf) (wordL_short (l := leftA c v) (by omega)) (wordL_short (l := leftA c v.reverse) (by omega)) (itoa_short (x := ((rwL c v).length : Int)) (by omega) (by omega)) (itoa_short ha1 ha2) red rw ab
    have HFv := Lib.hid (fun W (hb : Below w.heap.size w W) => spec_FormatWord_any g o m cp v W hm (by omega) (Nat.lt_of_lt_of_le hg hb.size) (hv.below hb hg))
    have HFx := Lib.hid (fun W B g2 c2 (h : Own W B g2 c2 (nfI c v)) => spec_FormatWord_any g2 0 (nfI c v).length c2 (nfI c v) W rfl (by omega) h.lt h.cells)
    have HFl := Lib.hid (fun W B g2 c2 (h : Own W B g2 c2 (leftA c v)) => spec_FormatWord_any g2 0 (leftA c v).length c2 (leftA c v) W rfl (by omega) h.lt h.cells)
    have HFr := Lib.hid (fun W B g2 c2 (h : Own W B g2 c2 (leftA c v.reverse)) => spec_FormatWord_any g2 0 (leftA c v.reverse).length c2 (leftA c v.reverse) W rfl (by omega) h.lt h.cells)
    have HL := Lib.hid (fun W (hb : Below w.heap.size w W) => spec_LeftDescents_any gc oc n cc g o m cp c v W hn hm hx hrl hl (Nat.lt_of_lt_of_le hgc hb.size) (Nat.lt_of_lt_of_le hg hb.size) (hr.below hb hgc) (hv.below hb hg))
    have HR := Lib.hid (fun W (hb : Below w.heap.size w W) => spec_RightDescents_any gc oc n cc g o m cp c v W hn hm hx hrl hl (Nat.lt_of_lt_of_le hgc hb.size) (Nat.lt_of_lt_of_le hg hb.size) (hr.below hb hgc) (hv.below hb hg))
    have HD := Lib.hid (fun W (hb : Below w.heap.size w W) => spec_IsReduced_any gc oc n cc g o m cp c v W hn hm hx hrl hl (Nat.lt_of_lt_of_le hgc hb.size) (Nat.lt_of_lt_of_le hg hb.size) (hr.below hb hgc) (hv.below hb hg))
    have HW := Lib.hid (fun W (hb : Below w.heap.size w W) => spec_ReducedWords_any gc oc n cc g o m cp c v W hn hm hx hrl hl (Nat.lt_of_lt_of_le hgc hb.size) (Nat.lt_of_lt_of_le hg hb.size) (hr.below hb hgc) (hv.below hb hg))
    have HA := Lib.hid (fun W (hb : Below w.heap.size w W) => spec_AbsoluteLength_any gc oc n cc g o m cp c v W hn hm hx hrl hl (Nat.lt_of_lt_of_le hgc hb.size) (Nat.lt_of_lt_of_le hg hb.size) (hr.below hb hgc) (hv.below hb hg))
    have HI1 := Lib.hid (fun W => spec_FormatInt_any ((rwL c v).length : Int) W hwl)
    have HI2 := Lib.hid (fun W => spec_FormatInt_any (absA c v) W hwa)
    have HNF := Lib.hid hNF
    clear hNF hr hv hW hwl hwa hnf hv50 hl1 hl2 hrs ha1 ha2 hrl hx hl hw
    generalize wordL v = A at *
    generalize wordL (nfI c v) = B at *
    generalize wordL (leftA c v) = C at *
    generalize wordL (leftA c v.reverse) = D at *
    generalize itoa ((rwL c v).length : Int) = E at *
    generalize itoa (absA c v) = F at *
    generalize nfI c v = X at *
    generalize leftA c v = Lx at *
    generalize leftA c v.reverse = Ly at *
    generalize redW c v = red at *
    generalize rwL c v = rl at *
    generalize rwB c v = rw at *
    generalize absA c v = ab at *
    have HY := Lib.hid (fun W => spec_l35Yes_any red [32, 114, 101, 100, 117, 99, 101, 100] W)
    have hlb : ∀ red rw ab, (lwS A B C D E F red rw ab).length ≤ 9223372036854775807 := fun red rw ab => Nat.le_trans (hlen red rw ab) (by decide)
    have h1 := hlb red true true
    have h2 := hlb red false true
    have h3 := hlb red true false
    simp only [lwS, cond_true, cond_false, List.length_append, List.length_cons, List.length_nil] at h1 h2 h3
    obtain ⟨s1, e1, q1⟩ := addE A A.toArray rfl [32, 105, 115, 32] (by simp only [List.length_append, List.length_cons, List.length_nil]; omega)
    obtain ⟨s2, e2, q2⟩ := addE (A ++ [32, 105, 115, 32]) s1 e1 B (by simp only [List.length_append, List.length_cons, List.length_nil]; omega)
    obtain ⟨s3, e3, q3⟩ := addE (A ++ [32, 105, 115, 32] ++ B) s2 e2 [32, 108, 101, 102, 116, 32] (by simp only [List.length_append, List.length_cons, List.length_nil]; omega)
    obtain ⟨s4, e4, q4⟩ := addE (A ++ [32, 105, 115, 32] ++ B ++ [32, 108, 101, 102, 116, 32]) s3 e3 C (by simp only [List.length_append, List.length_cons, List.length_nil]; omega)
    obtain ⟨s5, e5, q5⟩ := addE (A ++ [32, 105, 115, 32] ++ B ++ [32, 108, 101, 102, 116, 32] ++ C) s4 e4 [32, 114, 105, 103, 104, 116, 32] (by simp only [List.length_append, List.length_cons, List.length_nil]; omega)
    obtain ⟨s6, e6, q6⟩ := addE (A ++ [32, 105, 115, 32] ++ B ++ [32, 108, 101, 102, 116, 32] ++ C ++ [32, 114, 105, 103, 104, 116, 32]) s5 e5 D (by simp only [List.length_append, List.length_cons, List.length_nil]; omega)
    obtain ⟨s7, e7, q7⟩ := addE (A ++ [32, 105, 115, 32] ++ B ++ [32, 108, 101, 102, 116, 32] ++ C ++ [32, 114, 105, 103, 104, 116, 32] ++ D) s6 e6 (cond red [32, 114, 101, 100, 117, 99, 101, 100] []) (by simp only [List.length_append, List.length_cons, List.length_nil]; omega)
    generalize hY : (cond red [32, 114, 101, 100, 117, 99, 101, 100] [] : List UInt8) = Y at *
    have H1 := Lib.hid h1; have H2 := Lib.hid h2; have H3 := Lib.hid h3; have HYe := Lib.hid hY; clear h1 h2 h3 hlb hlen hY
    have Q1 := Lib.hid e1; clear e1
    have Q2 := Lib.hid e2; clear e2
    have Q3 := Lib.hid e3; clear e3
    have Q4 := Lib.hid e4; clear e4
    have Q5 := Lib.hid e5; clear e5
    have Q6 := Lib.hid e6; clear e6
    have Q7 := Lib.hid e7; clear e7
    go_enter Tryz.func5, Tryz.ntmps5
    go_wp2_with fail
    refine (HNF.out).mono ?_
    rintro e w1 ⟨g1, c1, rfl, ho1, hb1⟩
    have hB1 := hb1
    go_wp2_with fail
    refine (HFv.out w1 hB1).mono ?_
    rintro e w2 ⟨rfl, hb2⟩
    have hB2 := hB1.trans (hb2.mono hB1.size)
    have ho1 := ho1.below hb2 ho1.lt
    go_wp2_with fail
    refine (HFx.out w2 _ g1 c1 ho1).mono ?_
    rintro e w3 ⟨rfl, hb3⟩
    have hB3 := hB2.trans (hb3.mono hB2.size)
    go_wp2_with fail
    refine (HL.out w3 hB3).mono ?_
    rintro e w4 ⟨g4, c4, rfl, ho4, hb4⟩
    have hB4 := hB3.trans (hb4.mono hB3.size)
    go_wp2_with fail
    refine (HFl.out w4 _ g4 c4 ho4).mono ?_
    rintro e w5 ⟨rfl, hb5⟩
    have hB5 := hB4.trans (hb5.mono hB4.size)
    go_wp2_with fail
    refine (HR.out w5 hB5).mono ?_
    rintro e w6 ⟨g6, c6, rfl, ho6, hb6⟩
    have hB6 := hB5.trans (hb6.mono hB5.size)
    go_wp2_with fail
    refine (HFr.out w6 _ g6 c6 ho6).mono ?_
    rintro e w7 ⟨rfl, hb7⟩
    have hB7 := hB6.trans (hb7.mono hB6.size)
    go_wp2_with fail
    refine (HD.out w7 hB7).mono ?_
    rintro e w8 ⟨rfl, hb8⟩
    have hB8 := hB7.trans (hb8.mono hB7.size)
    go_wp2_with fail
    refine (HY.out w8).mono ?_
    rintro e w9 ⟨rfl, m9, rfl⟩
    have hB9 := below_drewN hB8 m9
    generalize w8.drewN m9 = w9 at *
    go_wp2_with fail
    refine (HW.out w9 hB9).mono ?_
    rintro e w10 ⟨g10, c10, rs10, rfl, -, -, hb10⟩
    have hB10 := hB9.trans (hb10.mono hB9.size)
    clear ho1 ho4 ho6 hb1 hb2 hb3 hb4 hb5 hb6 hb7 hb8 hb10 hB1 hB2 hB3 hB4 hB5 hB6 hB7 hB8 hB9 HNF HFv HFx HL HFl HR HFr HD HY HW
    cases rw with
    | false =>
      go_wp2_with fail
      refine (HA.out w10 hB10).mono ?_
      rintro e w11 ⟨rfl, hb11⟩
      have hB11 := hB10.trans (hb11.mono hB10.size)
      by_cases hab : 0 ≤ ab
      · have hd : decide (0 ≤ ab) = true := decide_eq_true hab
        have hh := H2.out
        have ee := Q7.out
        obtain ⟨t1, f1, p1⟩ := addE (A ++ [32, 105, 115, 32] ++ B ++ [32, 108, 101, 102, 116, 32] ++ C ++ [32, 114, 105, 103, 104, 116, 32] ++ D ++ Y) s7 ee [32, 114, 101, 102, 108, 101, 99, 116, 105, 111, 110, 115, 32] (by simp only [List.length_append, List.length_cons, List.length_nil]; omega)
        obtain ⟨t2, f2, p2⟩ := addE (A ++ [32, 105, 115, 32] ++ B ++ [32, 108, 101, 102, 116, 32] ++ C ++ [32, 114, 105, 103, 104, 116, 32] ++ D ++ Y ++ [32, 114, 101, 102, 108, 101, 99, 116, 105, 111, 110, 115, 32]) t1 f1 F (by simp only [List.length_append, List.length_cons, List.length_nil]; omega)
        have F2 := Lib.hid f2; have Hab := Lib.hid hab; clear f1 f2 ee hh hab
        go_wp2_with fail
        refine (HI2.out w11).mono ?_
        rintro e w12 ⟨rfl, hb12⟩
        have hB12 := hB11.trans (hb12.mono hB11.size)
        go_wp2_with fail
        go_ret
        refine ⟨?_, hB12⟩
        rw [hd, F2.out, ← HYe.out]
        simp [lwS]
      · have hd : decide (0 ≤ ab) = false := decide_eq_false hab
        go_wp2_with fail
        go_ret
        refine ⟨?_, hB11⟩
        rw [hd, Q7.out, ← HYe.out]
        simp [lwS]
    | true =>
      have hh := H1.out
      have ee := Q7.out
      obtain ⟨s8, e8, q8⟩ := addE (A ++ [32, 105, 115, 32] ++ B ++ [32, 108, 101, 102, 116, 32] ++ C ++ [32, 114, 105, 103, 104, 116, 32] ++ D ++ Y) s7 ee [32, 119, 111, 114, 100, 115, 32] (by simp only [List.length_append, List.length_cons, List.length_nil]; omega)
      obtain ⟨s9, e9, q9⟩ := addE (A ++ [32, 105, 115, 32] ++ B ++ [32, 108, 101, 102, 116, 32] ++ C ++ [32, 114, 105, 103, 104, 116, 32] ++ D ++ Y ++ [32, 119, 111, 114, 100, 115, 32]) s8 e8 E (by simp only [List.length_append, List.length_cons, List.length_nil]; omega)
      have Q9 := Lib.hid e9; clear e8 e9 ee hh
      go_wp2_with fail
      refine (HI1.out w10).mono ?_
      rintro e w11 ⟨rfl, hb11⟩
      have hB11 := hB10.trans (hb11.mono hB10.size)
      go_wp2_with fail
      refine (HA.out w11 hB11).mono ?_
      rintro e w12 ⟨rfl, hb12⟩
      have hB12 := hB11.trans (hb12.mono hB11.size)
      by_cases hab : 0 ≤ ab
      · have hd : decide (0 ≤ ab) = true := decide_eq_true hab
        have hh := H1.out
        have ee := Q9.out
        obtain ⟨t1, f1, p1⟩ := addE (A ++ [32, 105, 115, 32] ++ B ++ [32, 108, 101, 102, 116, 32] ++ C ++ [32, 114, 105, 103, 104, 116, 32] ++ D ++ Y ++ [32, 119, 111, 114, 100, 115, 32] ++ E) s9 ee [32, 114, 101, 102, 108, 101, 99, 116, 105, 111, 110, 115, 32] (by simp only [List.length_append, List.length_cons, List.length_nil]; omega)
        obtain ⟨t2, f2, p2⟩ := addE (A ++ [32, 105, 115, 32] ++ B ++ [32, 108, 101, 102, 116, 32] ++ C ++ [32, 114, 105, 103, 104, 116, 32] ++ D ++ Y ++ [32, 119, 111, 114, 100, 115, 32] ++ E ++ [32, 114, 101, 102, 108, 101, 99, 116, 105, 111, 110, 115, 32]) t1 f1 F (by simp only [List.length_append, List.length_cons, List.length_nil]; omega)
        have F2 := Lib.hid f2; have Hab := Lib.hid hab; clear f1 f2 ee hh hab
        go_wp2_with fail
        refine (HI2.out w12).mono ?_
        rintro e w13 ⟨rfl, hb13⟩
        have hB13 := hB12.trans (hb13.mono hB12.size)
        go_wp2_with fail
        go_ret
        refine ⟨?_, hB13⟩
        rw [hd, F2.out, ← HYe.out]
        simp [lwS]
      · have hd : decide (0 ≤ ab) = false := decide_eq_false hab
        go_wp2_with fail
        go_ret
        refine ⟨?_, hB12⟩
        rw [hd, Q9.out, ← HYe.out]
        simp [lwS]

set_option maxHeartbeats 2000000 in
theorem impl_WordLine_any (gc oc n cc g o m cp : Nat) (c : List (List Int)) (v : List Int) (w : World) (hn : c.length = n) (hm : v.length = m) (hx : c.length ≤ 1048576) (hrl : ∀ j, j < c.length → (c.getD j []).length ≤ 1048576) (hl : v.length ≤ 1048576)
    (hgc : gc < w.heap.size) (hg : g < w.heap.size) (hr : Rows2 w gc oc c) (hv : Cells w g o v) (ht : Tab w) :
    Calls Tryz.prog 8 #[(Value.slice (some ⟨gc, oc, none⟩) n cc), (Value.slice (some ⟨g, o, none⟩) m cp)] w (Gives w (.string ⟨(wordLineL c v).toArray⟩)) := by
  have hIW := impl_IsWord_any gc oc n cc g o m cp c v w hn hm hx hrl hl hr hv
  unfold wordLineL
  cases hw : isWordB c v with
  | false =>
    rw [hw] at hIW
    rw [if_neg (by decide)]
    have H := Lib.hid hIW; clear hIW hr hv hw
    go_enter Tryz.func8, Tryz.ntmps8
    go_wp2_with fail
    refine H.out.mono ?_
    rintro e w1 ⟨rfl, m1, rfl⟩
    go_wp2_with fail
    go_ret
    exact ⟨rfl, below_drewN' w m1⟩
  | true =>
    rw [hw] at hIW
    rw [if_pos rfl]
    have hW := wordOk_of hw
    have hC4 := hW.isC.2.1
    have hnf : (nfI c v).length ≤ 50 := by have h1 := (nfI_ok (hW.lets.mono (show 15 ≤ 30 by omega))).len; have h2 := hW.few; omega
    have hv50 : v.length ≤ 50 := by have h2 := hW.few; omega
    have hl1 := leftA_short hC4 v
    have hl2 := leftA_short hC4 v.reverse
    have hrs := rwL_short c v
    obtain ⟨ha1, ha2⟩ := absA_small hC4 v
    have hwl := wf_1000 (x := ((rwL c v).length : Int)) (by omega) (by omega)
    have hwa := wf_1000 ha1 ha2
    have hlen := fun red rw ab => lwS_len (wordL_short hv50) (wordL_short hnf) (wordL_short (l := leftA c v) (by omega)) (wordL_short (l := leftA c v.reverse) (by omega)) (itoa_short (x := ((rwL c v).length : Int)) (by omega) (by omega)) (itoa_short ha1 ha2) red rw ab
    have HFv := Lib.hid (fun W (hb : Below w.heap.size w W) => impl_FormatWord_any g o m cp v W hm (by omega) (Nat.lt_of_lt_of_le hg hb.size) (hv.below hb hg))
    have HFx := Lib.hid (fun W B g2 c2 (h : Own W B g2 c2 (nfI c v)) => impl_FormatWord_any g2 0 (nfI c v).length c2 (nfI c v) W rfl (by omega) h.lt h.cells)
    have HFl := Lib.hid (fun W B g2 c2 (h : Own W B g2 c2 (leftA c v)) => impl_FormatWord_any g2 0 (leftA c v).length c2 (leftA c v) W rfl (by omega) h.lt h.cells)
    have HFr := Lib.hid (fun W B g2 c2 (h : Own W B g2 c2 (leftA c v.reverse)) => impl_FormatWord_any g2 0 (leftA c v.reverse).length c2 (leftA c v.reverse) W rfl (by omega) h.lt h.cells)
    have HL := Lib.hid (fun W (hb : Below w.heap.size w W) => impl_LeftDescents_any gc oc n cc g o m cp c v W hn hm hx hrl hl (Nat.lt_of_lt_of_le hgc hb.size) (Nat.lt_of_lt_of_le hg hb.size) (hr.below hb hgc) (hv.below hb hg))
    have HR := Lib.hid (fun W (hb : Below w.heap.size w W) => impl_RightDescents_any gc oc n cc g o m cp c v W hn hm hx hrl hl (Nat.lt_of_lt_of_le hgc hb.size) (Nat.lt_of_lt_of_le hg hb.size) (hr.below hb hgc) (hv.below hb hg))
    have HD := Lib.hid (fun W (hb : Below w.heap.size w W) => impl_IsReduced_any gc oc n cc g o m cp c v W hn hm hx hrl hl (Nat.lt_of_lt_of_le hgc hb.size) (Nat.lt_of_lt_of_le hg hb.size) (hr.below hb hgc) (hv.below hb hg))
    have HW := Lib.hid (fun W (hb : Below w.heap.size w W) => impl_ReducedWords_any gc oc n cc g o m cp c v W hn hm hx hrl hl (Nat.lt_of_lt_of_le hgc hb.size) (Nat.lt_of_lt_of_le hg hb.size) (hr.below hb hgc) (hv.below hb hg))
    have HA := Lib.hid (fun W (hb : Below w.heap.size w W) => impl_AbsoluteLength_any gc oc n cc g o m cp c v W hn hm hx hrl hl (Nat.lt_of_lt_of_le hgc hb.size) (Nat.lt_of_lt_of_le hg hb.size) (hr.below hb hgc) (hv.below hb hg))
    have HI1 := Lib.hid (fun W (hT : Tab W) => impl_FormatInt_any ((rwL c v).length : Int) hwl W hT)
    have HI2 := Lib.hid (fun W (hT : Tab W) => impl_FormatInt_any (absA c v) hwa W hT)
    have HN := Lib.hid (fun W (hb : Below w.heap.size w W) => impl_reduced_any gc oc n cc g o m cp c v W hn hm (hW.lets.mono (show 15 ≤ 30 by omega)) (Nat.lt_of_lt_of_le hgc hb.size) (Nat.lt_of_lt_of_le hg hb.size) (hr.below hb hgc) (hv.below hb hg))
    have H := Lib.hid hIW; have Ht := Lib.hid ht
    clear hIW hr hv hW hwl hwa hnf hv50 hl1 hl2 hrs ha1 ha2 hrl hx hl hw ht
    generalize wordL v = A at *
    generalize wordL (nfI c v) = B at *
    generalize wordL (leftA c v) = C at *
    generalize wordL (leftA c v.reverse) = D at *
    generalize itoa ((rwL c v).length : Int) = E at *
    generalize itoa (absA c v) = F at *
    generalize nfI c v = X at *
    generalize leftA c v = Lx at *
    generalize leftA c v.reverse = Ly at *
    generalize redW c v = red at *
    generalize rwL c v = rl at *
    generalize rwB c v = rw at *
    generalize absA c v = ab at *
    have HJ : Hid (∀ red rw ab, (join (lwParts A B C D E F red rw ab) [32]).length ≤ 140737488355328) := fun red rw ab => by rw [← lwS_eq]; exact Nat.le_trans (hlen red rw ab) (by decide)
    have HJn : Hid (∀ W B2 g2 cap red rw ab n2, (lwParts A B C D E F red rw ab).length = n2 → n2 ≤ 100 → OwnStrs W B2 g2 cap (strs (lwParts A B C D E F red rw ab)) → Calls Tryz.prog 30 #[(Value.slice (some ⟨g2, 0, none⟩) n2 cap)] W (Gives W (.string ⟨(join (lwParts A B C D E F red rw ab) [32]).toArray⟩))) := fun W B2 g2 cap red rw ab n2 hn2 hn3 ho => impl_line_any ho hn2 (by omega) (HJ.out red rw ab)
    have H7 : Hid (∀ W : World, w.heap.size ≤ W.heap.size → OwnStrs (W.alloc (.cells #[.string ⟨A.toArray⟩, .string ⟨#[105, 115]⟩, .string ⟨B.toArray⟩, .string ⟨#[108, 101, 102, 116]⟩, .string ⟨C.toArray⟩, .string ⟨#[114, 105, 103, 104, 116]⟩, .string ⟨D.toArray⟩] 9)) w.heap.size W.heap.size 7 (strs (lwParts A B C D E F false false false))) := fun W hW => own_seven W w.heap.size A B C D hW
    clear hlen HJ
    go_enter Tryz.func8, Tryz.ntmps8
    go_wp2_with fail
    refine (H.out).mono ?_
    rintro e w1 ⟨rfl, m1, rfl⟩
    have hB1 := below_drewN' (B := w.heap.size) w m1
    generalize w.drewN m1 = w1 at *
    go_wp2_with fail
    refine (HFv.out w1 hB1).mono ?_
    rintro e w2 ⟨rfl, hb2⟩
    have hB2 := hB1.trans (hb2.mono hB1.size)
    go_wp2_with fail
    refine (HN.out w2 hB2).mono ?_
    rintro e w3 ⟨g3, c3, rfl, ho3, hb3⟩
    have hB3 := hB2.trans (hb3.mono hB2.size)
    go_wp2_with fail
    refine (HFx.out w3 _ g3 c3 ho3).mono ?_
    rintro e w4 ⟨rfl, hb4⟩
    have hB4 := hB3.trans (hb4.mono hB3.size)
    go_wp2_with fail
    refine (HL.out w4 hB4).mono ?_
    rintro e w5 ⟨g5, c5, rfl, ho5, hb5⟩
    have hB5 := hB4.trans (hb5.mono hB4.size)
    go_wp2_with fail
    refine (HFl.out w5 _ g5 c5 ho5).mono ?_
    rintro e w6 ⟨rfl, hb6⟩
    have hB6 := hB5.trans (hb6.mono hB5.size)
    go_wp2_with fail
    refine (HR.out w6 hB6).mono ?_
    rintro e w7 ⟨g7, c7, rfl, ho7, hb7⟩
    have hB7 := hB6.trans (hb7.mono hB6.size)
    go_wp2_with fail
    refine (HFr.out w7 _ g7 c7 ho7).mono ?_
    rintro e w8 ⟨rfl, hb8⟩
    have hB8 := hB7.trans (hb8.mono hB7.size)
    have hS8 := H7.out w8 hB8.size
    have hX8 := hB8.alloc hB8.size (.cells #[.string ⟨A.toArray⟩, .string ⟨#[105, 115]⟩, .string ⟨B.toArray⟩, .string ⟨#[108, 101, 102, 116]⟩, .string ⟨C.toArray⟩, .string ⟨#[114, 105, 103, 104, 116]⟩, .string ⟨D.toArray⟩] 9)
    clear ho3 ho5 ho7 hb2 hb3 hb4 hb5 hb6 hb7 hb8 hB1 hB2 hB3 hB4 hB5 hB6 hB7 hB8 H HFv HN HFx HL HFl HR HFr H7
    go_wp2_with fail
    refine (HD.out _ hX8).mono ?_
    rintro e w9 ⟨rfl, hb9⟩
    have hB9 := hX8.trans (hb9.mono hX8.size)
    have hS9 := OwnK.below hS8 hb9 (OwnK.lt hS8)
    clear hS8 hX8 hb9 HD
    cases red with
    | false =>
      go_wp2_with fail
      refine (HW.out w9 hB9).mono ?_
      rintro e w10 ⟨g10, c10, rs10, rfl, -, -, hb10⟩
      have hB10 := hB9.trans (hb10.mono hB9.size)
      have hS10 := OwnK.below hS9 hb10 (OwnK.lt hS9)
      cases rw with
      | false =>
        go_wp2_with fail
        refine (HA.out w10 hB10).mono ?_
        rintro e w11 ⟨rfl, hb11⟩
        have hB11 := hB10.trans (hb11.mono hB10.size)
        have hS11 := OwnK.below hS10 hb11 (OwnK.lt hS10)
        by_cases hab : 0 ≤ ab
        · have hd : decide (0 ≤ ab) = true := decide_eq_true hab
          have Hab := Lib.hid hab; clear hab
          go_wp2_with fail
          refine (HI2.out w11 (Ht.out.below hB11)).mono ?_
          rintro e w12 ⟨rfl, hb12⟩
          have hB12 := hB11.trans (hb12.mono hB11.size)
          have hS12 := OwnK.below hS11 hb12 (OwnK.lt hS11)
          have hf12 := OwnK.base hS12
          go_wp2_with (at_builtin; refine wpList_append_S2 rfl _ _ rfl w.heap.size w8.heap.size 7 7 w12.heap.size (lwParts A B C D E F false false false) [114, 101, 102, 108, 101, 99, 116, 105, 111, 110, 115] F w12 _ rfl rfl rfl hS12 rfl rfl (by omega) ?_)
          intro g13 c13 w13 hS13 hg13
          have hB13 : Below w.heap.size w w13 := hB12.grown hg13 hB12.size (by intro j hj; cases hj; exact hf12)
          go_wp2_with fail
          refine (HJn.out w13 _ g13 c13 false false true 9 rfl (by decide) hS13).mono ?_
          rintro e w14 ⟨rfl, hb14⟩
          have hB14 := hB13.trans (hb14.mono hB13.size)
          go_wp2_with fail
          go_ret
          exact ⟨by rw [hd]; rfl, hB14⟩
        · have hd : decide (0 ≤ ab) = false := decide_eq_false hab
          have Hab := Lib.hid hab; clear hab
          go_wp2_with fail
          refine (HJn.out w11 _ w8.heap.size 7 false false false 7 rfl (by decide) hS11).mono ?_
          rintro e w12 ⟨rfl, hb12⟩
          have hB12 := hB11.trans (hb12.mono hB11.size)
          go_wp2_with fail
          go_ret
          exact ⟨by rw [hd]; rfl, hB12⟩
      | true =>
        go_wp2_with fail
        refine (HI1.out w10 (Ht.out.below hB10)).mono ?_
        rintro e w11 ⟨rfl, hb11⟩
        have hB11 := hB10.trans (hb11.mono hB10.size)
        have hS11 := OwnK.below hS10 hb11 (OwnK.lt hS10)
        have hf11 := OwnK.base hS11
        go_wp2_with (at_builtin; refine wpList_append_S2 rfl _ _ rfl w.heap.size w8.heap.size 7 7 w11.heap.size (lwParts A B C D E F false false false) [119, 111, 114, 100, 115] E w11 _ rfl rfl rfl hS11 rfl rfl (by omega) ?_)
        intro g12 c12 w12 hS12 hg12
        have hB12 : Below w.heap.size w w12 := hB11.grown hg12 hB11.size (by intro j hj; cases hj; exact hf11)
        go_wp2_with fail
        refine (HA.out w12 hB12).mono ?_
        rintro e w13 ⟨rfl, hb13⟩
        have hB13 := hB12.trans (hb13.mono hB12.size)
        have hS13 := OwnK.below hS12 hb13 (OwnK.lt hS12)
        by_cases hab : 0 ≤ ab
        · have hd : decide (0 ≤ ab) = true := decide_eq_true hab
          have Hab := Lib.hid hab; clear hab
          go_wp2_with fail
          refine (HI2.out w13 (Ht.out.below hB13)).mono ?_
          rintro e w14 ⟨rfl, hb14⟩
          have hB14 := hB13.trans (hb14.mono hB13.size)
          have hS14 := OwnK.below hS13 hb14 (OwnK.lt hS13)
          have hf14 := OwnK.base hS14
          go_wp2_with (at_builtin; refine wpList_append_S2 rfl _ _ rfl w.heap.size g12 c12 9 w14.heap.size (lwParts A B C D E F false true false) [114, 101, 102, 108, 101, 99, 116, 105, 111, 110, 115] F w14 _ rfl rfl rfl hS14 rfl rfl (by omega) ?_)
          intro g15 c15 w15 hS15 hg15
          have hB15 : Below w.heap.size w w15 := hB14.grown hg15 hB14.size (by intro j hj; cases hj; exact hf14)
          go_wp2_with fail
          refine (HJn.out w15 _ g15 c15 false true true 11 rfl (by decide) hS15).mono ?_
          rintro e w16 ⟨rfl, hb16⟩
          have hB16 := hB15.trans (hb16.mono hB15.size)
          go_wp2_with fail
          go_ret
          exact ⟨by rw [hd]; rfl, hB16⟩
        · have hd : decide (0 ≤ ab) = false := decide_eq_false hab
          have Hab := Lib.hid hab; clear hab
          go_wp2_with fail
          refine (HJn.out w13 _ g12 c12 false true false 9 rfl (by decide) hS13).mono ?_
          rintro e w14 ⟨rfl, hb14⟩
          have hB14 := hB13.trans (hb14.mono hB13.size)
          go_wp2_with fail
          go_ret
          exact ⟨by rw [hd]; rfl, hB14⟩
    | true =>
      have hf9 := OwnK.base hS9
      go_wp2_with (at_builtin; refine wpList_append_S1 rfl _ _ rfl w.heap.size w8.heap.size 7 7 w9.heap.size (lwParts A B C D E F false false false) [114, 101, 100, 117, 99, 101, 100] w9 _ rfl rfl rfl hS9 rfl rfl (by omega) ?_)
      intro g10 c10 w10 hS10 hg10
      have hB10 : Below w.heap.size w w10 := hB9.grown hg10 hB9.size (by intro j hj; cases hj; exact hf9)
      go_wp2_with fail
      refine (HW.out w10 hB10).mono ?_
      rintro e w11 ⟨g11, c11, rs11, rfl, -, -, hb11⟩
      have hB11 := hB10.trans (hb11.mono hB10.size)
      have hS11 := OwnK.below hS10 hb11 (OwnK.lt hS10)
      cases rw with
      | false =>
        go_wp2_with fail
        refine (HA.out w11 hB11).mono ?_
        rintro e w12 ⟨rfl, hb12⟩
        have hB12 := hB11.trans (hb12.mono hB11.size)
        have hS12 := OwnK.below hS11 hb12 (OwnK.lt hS11)
        by_cases hab : 0 ≤ ab
        · have hd : decide (0 ≤ ab) = true := decide_eq_true hab
          have Hab := Lib.hid hab; clear hab
          go_wp2_with fail
          refine (HI2.out w12 (Ht.out.below hB12)).mono ?_
          rintro e w13 ⟨rfl, hb13⟩
          have hB13 := hB12.trans (hb13.mono hB12.size)
          have hS13 := OwnK.below hS12 hb13 (OwnK.lt hS12)
          have hf13 := OwnK.base hS13
          go_wp2_with (at_builtin; refine wpList_append_S2 rfl _ _ rfl w.heap.size g10 c10 8 w13.heap.size (lwParts A B C D E F true false false) [114, 101, 102, 108, 101, 99, 116, 105, 111, 110, 115] F w13 _ rfl rfl rfl hS13 rfl rfl (by omega) ?_)
          intro g14 c14 w14 hS14 hg14
          have hB14 : Below w.heap.size w w14 := hB13.grown hg14 hB13.size (by intro j hj; cases hj; exact hf13)
          go_wp2_with fail
          refine (HJn.out w14 _ g14 c14 true false true 10 rfl (by decide) hS14).mono ?_
          rintro e w15 ⟨rfl, hb15⟩
          have hB15 := hB14.trans (hb15.mono hB14.size)
          go_wp2_with fail
          go_ret
          exact ⟨by rw [hd]; rfl, hB15⟩
        · have hd : decide (0 ≤ ab) = false := decide_eq_false hab
          have Hab := Lib.hid hab; clear hab
          go_wp2_with fail
          refine (HJn.out w12 _ g10 c10 true false false 8 rfl (by decide) hS12).mono ?_
          rintro e w13 ⟨rfl, hb13⟩
          have hB13 := hB12.trans (hb13.mono hB12.size)
          go_wp2_with fail
          go_ret
          exact ⟨by rw [hd]; rfl, hB13⟩
      | true =>
        go_wp2_with fail
        refine (HI1.out w11 (Ht.out.below hB11)).mono ?_
        rintro e w12 ⟨rfl, hb12⟩
        have hB12 := hB11.trans (hb12.mono hB11.size)
        have hS12 := OwnK.below hS11 hb12 (OwnK.lt hS11)
        have hf12 := OwnK.base hS12
        go_wp2_with (at_builtin; refine wpList_append_S2 rfl _ _ rfl w.heap.size g10 c10 8 w12.heap.size (lwParts A B C D E F true false false) [119, 111, 114, 100, 115] E w12 _ rfl rfl rfl hS12 rfl rfl (by omega) ?_)
        intro g13 c13 w13 hS13 hg13
        have hB13 : Below w.heap.size w w13 := hB12.grown hg13 hB12.size (by intro j hj; cases hj; exact hf12)
        go_wp2_with fail
        refine (HA.out w13 hB13).mono ?_
        rintro e w14 ⟨rfl, hb14⟩
        have hB14 := hB13.trans (hb14.mono hB13.size)
        have hS14 := OwnK.below hS13 hb14 (OwnK.lt hS13)
        by_cases hab : 0 ≤ ab
        · have hd : decide (0 ≤ ab) = true := decide_eq_true hab
          have Hab := Lib.hid hab; clear hab
          go_wp2_with fail
          refine (HI2.out w14 (Ht.out.below hB14)).mono ?_
          rintro e w15 ⟨rfl, hb15⟩
          have hB15 := hB14.trans (hb15.mono hB14.size)
          have hS15 := OwnK.below hS14 hb15 (OwnK.lt hS14)
          have hf15 := OwnK.base hS15
          go_wp2_with (at_builtin; refine wpList_append_S2 rfl _ _ rfl w.heap.size g13 c13 10 w15.heap.size (lwParts A B C D E F true true false) [114, 101, 102, 108, 101, 99, 116, 105, 111, 110, 115] F w15 _ rfl rfl rfl hS15 rfl rfl (by omega) ?_)
          intro g16 c16 w16 hS16 hg16
          have hB16 : Below w.heap.size w w16 := hB15.grown hg16 hB15.size (by intro j hj; cases hj; exact hf15)
          go_wp2_with fail
          refine (HJn.out w16 _ g16 c16 true true true 12 rfl (by decide) hS16).mono ?_
          rintro e w17 ⟨rfl, hb17⟩
          have hB17 := hB16.trans (hb17.mono hB16.size)
          go_wp2_with fail
          go_ret
          exact ⟨by rw [hd]; rfl, hB17⟩
        · have hd : decide (0 ≤ ab) = false := decide_eq_false hab
          have Hab := Lib.hid hab; clear hab
          go_wp2_with fail
          refine (HJn.out w14 _ g13 c13 true true false 10 rfl (by decide) hS14).mono ?_
          rintro e w15 ⟨rfl, hb15⟩
          have hB15 := hB14.trans (hb15.mono hB14.size)
          go_wp2_with fail
          go_ret
          exact ⟨by rw [hd]; rfl, hB15⟩
end Go.Proofs.YtjhoimdfmcjkbaaGreatDoor
