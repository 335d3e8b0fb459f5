/- Mirrored roots, the order of roots, transposed matrices: contracts. Vectors of four numbers as keys: vectorOf, list. Sets of vectors that a call keeps in a map: words and laws. New rows and a bool; small laws of sets of vectors. -/
import Derived.Test.YtmjneokgnnbekaaG10
import Derived.Test.YtmjneokgnnbekaaG19
import Derived.Test.YtmjneokgnnbekaaG11
import Derived.Deep.RegionWith
import Derived.Test.YtmjneokgnnbekaaG08
import Derived.Laws.CopyOwn
import Derived.Maps.Own
import Derived.Maps.OwnOps
import Derived.Maps.Views
import Derived.WideKeyArr2
import Derived.DeepKeys4
import Derived.Test.YtmjneokgnnbekaaG07
namespace Go.Proofs.Ytmjneokgnnbekaa
set_option maxRecDepth 100000
open Go.RowKit Game

set_option maxHeartbeats 1000000 in
theorem impl_compareRoots_any (g1 o1 n1 c1 g2 o2 n2 c2 : Nat) (xs ys : List Int) (w : World) (hn1 : xs.length = n1) (hn2 : ys.length = n2) (hx : xs.length ≤ 1048576) (hy : ys.length ≤ 1048576)
    (hcx : Cells w g1 o1 xs) (hcy : Cells w g2 o2 ys) :
    Calls Try.prog 120 #[(Value.slice (some ⟨g1, o1, none⟩) n1 c1), (Value.slice (some ⟨g2, o2, none⟩) n2 c2)] w (Lays w (.int .i64 (rootCmp xs ys))) := by
  subst hn1; subst hn2
  have Ho : Hid (orL [cmpI (heightL xs) (heightL ys), sliceCmp ys xs] = rootCmp xs ys) := rfl
  go_enter Try.func120, Try.ntmps120
  go_wp2_with fail
  refine (impl_HeightOf_any g1 o1 _ c1 xs w rfl hx hcx).mono ?_
  rintro e w1 ⟨rfl, hs1⟩
  go_wp2_with fail
  refine (impl_HeightOf_any g2 o2 _ c2 ys w1 rfl hy (hcy.still hs1)).mono ?_
  rintro e w2 ⟨rfl, hs2⟩
  replace hs2 := still_trans hs1 hs2
  clear hs1
  generalize heightL xs = h1 at *
  generalize heightL ys = h2 at *
  go_wp2_with fail
  refine (cw_Compare h1 h2 w2).mono ?_
  rintro e w3 ⟨rfl, hs3⟩
  replace hs3 := still_trans hs2 hs3
  clear hs2
  go_wp2_with fail
  refine (slices_Compare_any g2 o2 ys.length c2 g1 o1 xs.length c1 ys xs w3 rfl rfl (by omega) (hcy.still hs3) (hcx.still hs3)).mono ?_
  rintro e w4 ⟨rfl, hs4⟩
  replace hs4 := still_trans hs3 hs4
  clear hs3
  generalize sliceCmp ys xs = z at *
  generalize cmpI h1 h2 = y at *
  have Hs4 := Lib.hid hs4
  clear hs4
  obtain ⟨w5, hw5⟩ : ∃ w5, w5 = w4.alloc (.cells #[.int .i64 y, .int .i64 z] 3) := ⟨_, rfl⟩
  have hc5 : Cells w5 w4.heap.size 0 [y, z] := by
    obtain ⟨q1, q2⟩ : w5.cell? ⟨w4.heap.size, 0, none⟩ = some (.int .i64 y) ∧ w5.cell? ⟨w4.heap.size, 1, none⟩ = some (.int .i64 z) := by
      have hh : w5.heap[w4.heap.size]? = some (.cells #[.int .i64 y, .int .i64 z] 3 (0, 0)) := by rw [hw5]; exact heap_alloc_new _ _
      constructor <;> simp [World.cell?, hh]
    intro j hj
    have : j = 0 ∨ j = 1 := by simp at hj; omega
    rcases this with rfl | rfl
    · exact q1
    · exact q2
  have hcall := cw_Or w4.heap.size 0 2 2 [y, z] w5 rfl (by simp) hc5
  rw [hw5, Ho.out] at hcall
  have Hcall := Lib.hid hcall
  clear hcall hc5 hw5
  go_wp2_with fail
  refine Hcall.out.mono ?_
  rintro e w6 ⟨rfl, hs6⟩
  go_wp2_with fail
  go_ret
  refine ⟨rfl, ?_⟩
  obtain ⟨m4, e4⟩ := Hs4.out
  obtain ⟨m6, e6⟩ := hs6
  refine ⟨.cells #[.int .i64 y, .int .i64 z] 3, m4 + m6, ?_⟩
  rw [e6, e4]
  show ((w.alloc _).drewN m4).drewN m6 = _
  rw [World.drewN_drewN]
theorem cmp_roots : CmpOk 120 rootCmp := fun g1 o1 c1 g2 o2 c2 xs ys w hx hy h1 h2 =>
  (impl_compareRoots_any g1 o1 _ c1 g2 o2 _ c2 xs ys w rfl rfl hx hy h1 h2).mono fun _ _ h => lays_grow h

theorem before_of {xs ys : List Int} (hl : xs.length = ys.length) : decide (rootCmp xs ys < 0) = if heightL xs = heightL ys then decide (0 < lexCmp xs ys) else decide (heightL xs < heightL ys) := by
  rw [rootCmp_def]
  by_cases h : heightL xs = heightL ys
  · rw [if_pos (by rw [h]; unfold cmpI; simp), if_pos h, sliceCmp_same hl.symm]
    have h2 := sliceCmp_anti xs ys
    rw [sliceCmp_same hl, sliceCmp_same hl.symm] at h2
    exact decide_eq_decide.2 (by omega)
  · rw [if_neg (by intro h2; exact h (cmpI_zero h2)), if_neg h]
    exact decide_eq_decide.2 cmpI_neg
set_option maxHeartbeats 2000000 in
theorem spec_l7Before_any (g1 o1 n1 c1 g2 o2 n2 c2 : Nat) (xs ys : List Int) (w : World) (hn1 : xs.length = n1) (hn2 : ys.length = n2) (hl : xs.length = ys.length) (hx : xs.length ≤ 1048576)
    (hcx : Cells w g1 o1 xs) (hcy : Cells w g2 o2 ys) :
    Calls Try.prog 107 #[(Value.slice (some ⟨g1, o1, none⟩) n1 c1), (Value.slice (some ⟨g2, o2, none⟩) n2 c2)] w (Reads w (.bool (decide (rootCmp xs ys < 0)))) := by
  subst hn1; subst hn2
  have hv := before_of hl
  have hl' : ys.length = xs.length := hl.symm
  have hy : ys.length ≤ 1048576 := by omega
  have Hl := Lib.hid hl'; clear hl' hl
  have Hv := Lib.hid hv; clear hv
  go_enter Try.func107, Try.ntmps107
  go_wp2_with fail
  refine (spec_HeightOf_any g1 o1 _ c1 xs w rfl hx hcx).mono ?_
  rintro e w1 ⟨rfl, m1, rfl⟩
  go_wp2_with fail
  refine (spec_HeightOf_any g2 o2 _ c2 ys (w.drewN m1) rfl hy hcy).mono ?_
  rintro e w2 ⟨rfl, m2, rfl⟩
  by_cases hh : heightL xs = heightL ys
  · have hv := Hv.out
    rw [if_pos hh] at hv
    have hb : (heightL xs != heightL ys) = false := by simp [hh]
    have Hv2 := Lib.hid hv; clear hv Hv
    generalize heightL xs = h1 at *
    generalize heightL ys = h2 at *
    clear hh
    go_wp2_with fail
    go_loopw [7] (fun i wr => ∃ k : Nat, k ≤ xs.length ∧ i = .int .i64 k ∧ Hid (lexCmp xs ys = lexCmp (xs.drop k) (ys.drop k)) ∧ ∃ n, wr = w.drewN n) (fun i _ => xs.length - (intOf i).toNat)
    case atStart => exact ⟨0, Nat.zero_le _, rfl, rfl, (by first | exact ⟨_, rfl⟩ | exact ⟨0, rfl⟩ | exact still2 _ _ _ | exact still3 _ _ _ _)⟩
    case round =>
      obtain ⟨k, hk, rfl, he, n, rfl⟩ := hrel
      by_cases hlt : k < xs.length
      · have hl2 : k < ys.length := by rw [Hl.out]; exact hlt
        have h1 := hcx k hlt
        have h2 := hcy k hl2
        have hd := lexCmp_drop hlt hl2
        have Hd := Lib.hid hd; clear hd
        go_wp2
        go_quiet (fail)
        go_wp2
        · have ht : (xs[k] != ys[k]) = true := by assumption
          go_quiet (fail)
          go_wp2
          go_ret
          refine ⟨ret_bool ?_, (by first | exact ⟨_, rfl⟩ | exact ⟨0, rfl⟩ | exact still2 _ _ _ | exact still3 _ _ _ _)⟩
          rw [Hv2.out, he.out, Hd.out]
          have hne : xs[k] ≠ ys[k] := by simpa using ht
          by_cases h : xs[k] < ys[k]
          · rw [if_pos h]; simp; omega
          · rw [if_neg h, if_pos (by omega)]; simp; omega
        · have ht : (xs[k] != ys[k]) = false := by assumption
          have hee : xs[k] = ys[k] := by simpa using ht
          go_roundw
          case rel => exact ⟨k + 1, by omega, by go_num, by show _ = _; rw [he.out, Hd.out, if_neg (by omega), if_neg (by omega)], (by first | exact ⟨_, rfl⟩ | exact ⟨0, rfl⟩ | exact still2 _ _ _ | exact still3 _ _ _ _)⟩
          case measure => simp [intOf]; omega
      · obtain rfl : k = xs.length := by omega
        go_wp2
        go_ret
        refine ⟨ret_bool ?_, (by first | exact ⟨_, rfl⟩ | exact ⟨0, rfl⟩ | exact still2 _ _ _ | exact still3 _ _ _ _)⟩
        rw [Hv2.out, he.out, List.drop_length]; rfl
  · have hv := Hv.out
    rw [if_neg hh] at hv
    have hb : (heightL xs != heightL ys) = true := by simp [hh]
    have Hv2 := Lib.hid hv; clear hv Hv
    generalize heightL xs = h1 at *
    generalize heightL ys = h2 at *
    clear hh
    go_wp2_with fail
    go_ret
    exact ⟨ret_bool (by rw [Hv2.out]), (by first | exact ⟨_, rfl⟩ | exact ⟨0, rfl⟩ | exact still2 _ _ _ | exact still3 _ _ _ _)⟩
end Go.Proofs.Ytmjneokgnnbekaa
namespace Go.Proofs.Ytmjneokgnnbekaa
set_option maxRecDepth 100000
open Go.RowKit Game

def vecVal (v : List Int) : Value := .agg #[.int .i64 (v.getD 0 0), .int .i64 (v.getD 1 0), .int .i64 (v.getD 2 0), .int .i64 (v.getD 3 0)]

theorem splice4 (v : List Int) (h : v.length ≤ 4) : splice [Value.int .i64 0, .int .i64 0, .int .i64 0, .int .i64 0] 0 (v.map (Value.int .i64)) = [.int .i64 (v.getD 0 0), .int .i64 (v.getD 1 0), .int .i64 (v.getD 2 0), .int .i64 (v.getD 3 0)] := by
  match v, h with
  | [], _ => rfl
  | [a], _ => rfl
  | [a, b], _ => rfl
  | [a, b, c], _ => rfl
  | [a, b, c, d], _ => rfl
theorem cell4 {w : World} {B : Nat} {a b c d : Value} {t : TypeId} (h : w.heap[B]? = some (.cells #[a, b, c, d] t (0, 0))) :
    (w.cell? ⟨B, 0, none⟩ = some a ∧ w.cell? ⟨B, 1, none⟩ = some b ∧ w.cell? ⟨B, 2, none⟩ = some c ∧ w.cell? ⟨B, 3, none⟩ = some d) ∧ ∀ j, w.frozen? ⟨B, j, none⟩ = false := by
  refine ⟨⟨?_, ?_, ?_, ?_⟩, fun j => ?_⟩ <;> simp [World.cell?, World.frozen?, h]

/-- 'append([]int{}, l...)', the worlds under names -/
theorem wpList_clone_n {w : World} {ops : Array Oper} {rest : List Oper} {o : Oper} {a : Act} {Q : Exit → Act → World → Prop} (hgd : o.guard = none) (s x : Operand)
    (ho : o.op = .call { callee := .builtin .append, args := #[s, x], argTypes := #[23, 23] })
    (w1 W : World) (H g2 o2 n2 c2 : Nat) (ys : List Int) (hn : ys.length = n2) (hW : W = w1.alloc (.cells #[] 3)) (hH : w1.heap.size = H) (hb : Below w.heap.size w w1) (hg : g2 < w1.heap.size) (hc : Cells w1 g2 o2 ys)
    (hs : a.eval s = (Value.slice (some ⟨H, 0, none⟩) 0 0)) (hx : a.eval x = (Value.slice (some ⟨g2, o2, none⟩) n2 c2)) (hlen : ys.length ≤ 1099511627776)
    (h : ∀ g' cap' w', Own w' w.heap.size g' cap' ys → Below w.heap.size w w' → wpList Try.prog ops Q rest (a.put o.dst (Value.slice (some ⟨g', 0, none⟩) n2 cap')) w') :
    wpList Try.prog ops Q (o :: rest) a W := by
  subst hW; subst hH
  exact wpList_clone hgd s x ho g2 o2 n2 c2 ys hn hg hc hs hx hlen fun g' cap' w' h1 h2 => h g' cap' w' (h1.mono hb.size) (hb.trans (h2.mono hb.size))

theorem cells_of4 {w : World} {B : Nat} {v : List Int} {t : TypeId} (h4 : v.length ≤ 4) (h : w.heap[B]? = some (.cells #[.int .i64 (v.getD 0 0), .int .i64 (v.getD 1 0), .int .i64 (v.getD 2 0), .int .i64 (v.getD 3 0)] t (0, 0))) : Cells w B 0 v := by
  obtain ⟨⟨a0, a1, a2, a3⟩, -⟩ := cell4 h
  intro j hj
  have : j = 0 ∨ j = 1 ∨ j = 2 ∨ j = 3 := by omega
  rcases this with rfl | rfl | rfl | rfl
  · exact a0
  · exact a1
  · exact a2
  · exact a3
end Go.Proofs.Ytmjneokgnnbekaa
namespace Go.Proofs.Ytmjneokgnnbekaa
set_option maxRecDepth 100000
open Go.RowKit Game
open Go.Maps (Keyed IsMap)

theorem vecLaidOut : laidOutB Try.prog = true := by kernel_rfl
theorem boolZero (w : World) : (zeroValue 4).run Try.prog w = .ok (.bool false) w := by kernel_rfl
def WfV (v : List Int) : Prop := ∀ j, j < 4 → (Lit.int .i64 (v.getD j 0)).wf = true
def keyL (v : List Int) : Lit := .string (keyBytes [.int .i64 (v.getD 0 0), .int .i64 (v.getD 1 0), .int .i64 (v.getD 2 0), .int .i64 (v.getD 3 0)])
theorem vecVal_inj {v u : List Int} (hl : v.length = u.length) (h4 : v.length ≤ 4) (h : vecVal v = vecVal u) : v = u := by
  unfold vecVal at h
  simp at h
  obtain ⟨h0, h1, h2, h3⟩ := h
  apply List.ext_getElem hl
  intro i hi hi'
  have : i = 0 ∨ i = 1 ∨ i = 2 ∨ i = 3 := by omega
  rcases this with rfl | rfl | rfl | rfl <;> simp_all
section
variable {w w' : World} {b n m : Nat} {ks : List (List Int)}
theorem plainElem_bool_inv {P : Program} {e : TypeId} (he : P.underlying e = some .bool) {v : Value} {z : DataW Unit × List MemPlace} (h : plainElem P e v = some z) : ∃ x, v = .bool x ∧ z = (.lit (.bool x), []) := by
  unfold plainElem at h
  rw [he] at h
  cases v <;> simp at h
  subst h
  exact ⟨_, rfl, rfl⟩
end
end Go.Proofs.Ytmjneokgnnbekaa
namespace Go.Proofs.Ytmjneokgnnbekaa
set_option maxRecDepth 100000
open Go.RowKit Game

theorem wfV_refl (c : List (List Int)) (i : Nat) (v : List Int) : WfV (refl c i v) := by
  intro j _
  by_cases h : j < v.length
  · have e : (refl c i v).getD j 0 = reflAt c i v j := by simp [refl, List.getD, h]
    rw [e]; exact wrap64_wf _
  · have e : (refl c i v).getD j 0 = 0 := by simp [refl, List.getD, h]
    rw [e]; decide
/-- new rows and a bool -/
def GotRowsB (w : World) (rows : List (List Int)) (b : Bool) (e : Ending) (w' : World) : Prop :=
  ∃ g cap rs, e = .returned (.tuple #[(Value.slice (some ⟨g, 0, none⟩) rows.length cap), .bool b]) ∧ contents rs = rows ∧ OwnRows w' w.heap.size g cap rs ∧ Below w.heap.size w w'
theorem GotRowsB.mk' {w w' : World} {rows : List (List Int)} {b : Bool} {n : Nat} (g cap : Nat) (rs : List RowRef) (hl : rs.length = n) (hc : contents rs = rows) (ho : OwnRows w' w.heap.size g cap rs) (hb : Below w.heap.size w w') :
    GotRowsB w rows b (.returned (.tuple #[(Value.slice (some ⟨g, 0, none⟩) n cap), .bool b])) w' := by
  subst hl; subst hc
  exact ⟨g, cap, rs, by rw [contents_length], rfl, ho, hb⟩
theorem start_rows (w : World) : OwnRows ((w.alloc (.cells #[] 3)).alloc (.cells #[(Value.slice (some ⟨w.heap.size, 0, none⟩) 0 0)] 23)) w.heap.size (w.heap.size + 1) 1 [(w.heap.size, 0, [])] := by
  have h1 : Own (w.alloc (.cells #[] 3)) w.heap.size w.heap.size 0 [] := Own.empty (w := w) (Nat.le_refl _)
  have h2 : OwnV ((w.alloc (.cells #[] 3)).alloc (.cells #[(Value.slice (some ⟨w.heap.size, 0, none⟩) 0 0)] 23)) w.heap.size 23 (w.heap.size + 1) 1 [(Value.slice (some ⟨w.heap.size, 0, none⟩) 0 0)] := by
    have := OwnV.new (w := w.alloc (.cells #[] 3)) (B := w.heap.size) (E := 23) (Value.slice (some ⟨w.heap.size, 0, none⟩) 0 0) rfl (by simp)
    simpa using this
  exact ⟨h2, ⟨fun r hr => by rw [List.mem_singleton] at hr; subst hr; exact h1.alloc _, by simp⟩⟩
theorem GotRowsB.held {w w' : World} {rows : List (List Int)} {b : Bool} {e : Ending} (h : GotRowsB w rows b e w') :
    ∃ g cap, e = .returned (.tuple #[(Value.slice (some ⟨g, 0, none⟩) rows.length cap), .bool b]) ∧ HeldR w' w.heap.size w'.heap.size g cap rows ∧ Below w.heap.size w w' := by
  obtain ⟨g, cap, rs, he, hc, ho, hb⟩ := h
  exact ⟨g, cap, he, ⟨rs, hc, ho, ho.lt, fun r hr => (ho.2.1 r hr).lt⟩, hb⟩
theorem rowsFew_of {rows : List (List Int)} (h1 : rows.length ≤ 200) (h2 : ∀ x ∈ rows, x.length ≤ 15) : rowsFew rows := by
  have h3 : ∀ j, j < rows.length → (rows.getD j []).length ≤ 15 := fun j hj => h2 _ (by simp [List.getD, hj])
  refine ⟨by omega, fun j hj => by have := h3 j hj; omega, ?_⟩
  have : ∀ k, k ≤ rows.length → sumLen rows k ≤ 15 * k := by
    intro k
    induction k with
    | zero => intro _; simp [sumLen]
    | succ k ih =>
      intro hk
      rw [sumLen_succ _ _ (by omega)]
      have := h3 k (by omega)
      have := ih (by omega)
      omega
  have := this rows.length (Nat.le_refl _)
  omega
end Go.Proofs.Ytmjneokgnnbekaa
