/- The program's matches: contract. -/
import Derived.Test.YtldcmhgpppeooaaGreatDoorG20
import Derived.Test.YtldcmhgpppeooaaGreatDoorG21
import Derived.Test.YtldcmhgpppeooaaGreatDoorG22
namespace Go.Proofs.YtldcmhgpppeooaaGreatDoor
set_option maxRecDepth 100000
open Go.RowKit

theorem wpList_append_ord {w : World} {ops : Array Oper} {rest : List Oper} {o : Oper} {a : Act} {Q : Exit → Act → World → Prop} (hgd : o.guard = none) (s x : Operand)
    (ho : o.op = .call { callee := .builtin .append, args := #[s, x], argTypes := #[27, 27] })
    (B n : Nat) (v : Value) (xs : List Int) (z : Int) (hn : xs.length = n) (hv : OrdV w B v xs) (hB : B ≤ w.heap.size) (hs : a.eval s = v) (hx : a.eval x = (Value.slice (some ⟨w.heap.size, 0, none⟩) 1 1)) (hlen : n + 1 ≤ 1048576)
    (h : ∀ g c w', Own w' B g c (xs ++ [z]) → Below B w w' → wpList Tryz.prog ops Q rest (a.put o.dst (Value.slice (some ⟨g, 0, none⟩) (n + 1) c)) w') :
    wpList Tryz.prog ops Q (o :: rest) a (w.alloc (.cells #[.int .i64 z] 3)) := by
  subst hn
  obtain ⟨g, c, w', hr, h1, h2, h3⟩ := run_append_ord hv hB z hlen o.type
  have hb : Below B w w' := by
    rcases hv with ⟨e, -⟩ | ⟨g0, c0, e, ho⟩
    · exact (h2 e).mono hB
    · have hg := h3 g0 _ c0 e
      exact (Below.refl _ _).grown hg hB (by intro k hk; cases hk; exact ho.base)
  refine wpList_plain hgd fun K hK => ?_
  unfold Oper.wp execOp
  simp only [ho, resolve, invoke, builtin, Sem.run_bind, Sem.run_pure, Result.andThen_ok, List.map_toArray, List.map_cons, List.map_nil, hs, hx, hr]
  exact hK _ _ (h g c w' h1 hb)
theorem own_row1 {w : World} {B g c n : Nat} {xs : List Int} (hB : B ≤ w.heap.size) (hn : xs.length = n) (h : Own w B g c xs) : OwnRows (w.alloc (.cells #[(Value.slice (some ⟨g, 0, none⟩) n c)] 27)) B w.heap.size 1 [(g, c, xs)] := by
  subst hn
  have h2 := OwnV.new (w := w) (B := B) (E := 27) (Value.slice (some ⟨g, 0, none⟩) xs.length c) rfl hB
  exact ⟨h2, ⟨fun r hr => by rw [List.mem_singleton] at hr; subst hr; exact h.alloc _, by simp⟩⟩
def prefM (a b : List (List Int)) (f : Nat) (o : List Nat) (i : Nat) : List (List Nat) := (List.range i).flatMap fun i => if o.contains i || !(fit a b o i) then [] else mtF a b f (o ++ [i])
theorem prefM_skip {a b : List (List Int)} {f : Nat} {o : List Nat} {i : Nat} (h : (o.contains i || !(fit a b o i)) = true) : prefM a b f o (i + 1) = prefM a b f o i := by
  unfold prefM
  rw [List.range_succ, List.flatMap_append, List.flatMap_cons, List.flatMap_nil, if_pos h, List.append_nil, List.append_nil]
theorem prefM_take {a b : List (List Int)} {f : Nat} {o : List Nat} {i : Nat} (h : (o.contains i || !(fit a b o i)) = false) : prefM a b f o (i + 1) = prefM a b f o i ++ mtF a b f (o ++ [i]) := by
  unfold prefM
  rw [List.range_succ, List.flatMap_append, List.flatMap_cons, List.flatMap_nil, if_neg (by rw [h]; simp), List.append_nil]
theorem prefM_all (a b : List (List Int)) (f : Nat) (o : List Nat) : mtF a b (f + 1) o = prefM a b f o a.length := rfl
theorem prefM_break {a b : List (List Int)} {f : Nat} {o : List Nat} {i M : Nat} (hi : i ≤ a.length) (h : M ≤ (prefM a b f o i).length) : (mtF a b (f + 1) o).take M = (prefM a b f o i).take M := by
  rw [prefM_all]
  have e : List.range a.length = List.range i ++ (List.range a.length).drop i := by
    have := (List.take_append_drop i (List.range a.length)).symm
    rwa [List.take_range, Nat.min_eq_left hi] at this
  unfold prefM at *
  rw [e, List.flatMap_append, List.take_append_of_le_length h]
def fitTo (a b : List (List Int)) (o : List Nat) (i j : Nat) : Bool := (List.range j).all fun j => (ent a i (o.getD j 0) == ent b o.length j) && (ent a (o.getD j 0) i == ent b j o.length)
theorem fitTo_succ (a b : List (List Int)) (o : List Nat) (i j : Nat) : fitTo a b o i (j + 1) = (fitTo a b o i j && ((ent a i (o.getD j 0) == ent b o.length j) && (ent a (o.getD j 0) i == ent b j o.length))) := by
  unfold fitTo
  rw [List.range_succ, List.all_append]
  simp
theorem mem_intsOf (o : List Nat) (i : Nat) : decide ((i : Int) ∈ intsOf o) = o.contains i := by
  rw [Bool.eq_iff_iff]
  simp only [decide_eq_true_eq, intsOf, List.mem_map, List.contains_iff_mem]
  constructor
  · rintro ⟨x, hx, e⟩
    have : x = i := by omega
    rw [← this]; exact hx
  · intro h; exact ⟨i, h, rfl⟩
theorem GotRows.mk' {w w' : World} {rows : List (List Int)} {n : Nat} (g cap : Nat) (rs : List RowRef) (hl : rs.length = n) (hc : contents rs = rows) (ho : OwnRows w' w.heap.size g cap rs) (hb : Below w.heap.size w w') : GotRows w rows (.returned (Value.slice (some ⟨g, 0, none⟩) n cap)) w' := by
  subst hl; subst hc
  exact ⟨g, cap, rs, by rw [contents_length], rfl, ho, hb⟩
/-- entries of a square matrix, by its rows -/
theorem sq_cell {w : World} {g o n : Nat} {c : List (List Int)} (h : SqN n c) (hr : Rows2 w g o c) {i j : Nat} (hi : i < n) (hj : j < n) :
    ∃ gi oi ci, w.cell? ⟨g, o + i, none⟩ = some (Value.slice (some ⟨gi, oi, none⟩) n ci) ∧ gi < w.heap.size ∧ w.cell? ⟨gi, oi + j, none⟩ = some (.int .i64 (ent c i j)) := by
  obtain ⟨gi, oi, ci, q1, q2, q3, q4⟩ := hr i (by rw [h.1]; exact hi)
  rw [h.2 i hi] at q1
  exact ⟨gi, oi, ci, q1, q3, q4 j (by rw [h.2 i hi]; exact hj)⟩

set_option maxHeartbeats 2000000 in
theorem impl_matches_ok (a b : List (List Int)) (n : Nat) (hn1 : 1 ≤ n) (hn4 : n ≤ 4) (ha : SqN n a) (hb : SqN n b) : ∀ (f ga oa ca gb ob cb : Nat) (A : Option Addr) (k c B : Nat) (o : List Nat) (M : Nat) (w : World), f + o.length = n → o.length = k → (∀ x ∈ o, x < n) → 1 ≤ M → M ≤ 1000 → ga < w.heap.size → gb < w.heap.size → Rows2 w ga oa a → Rows2 w gb ob b → OrdV w B (.slice A k c) (intsOf o) →
    Calls Tryz.prog 199 #[(Value.slice (some ⟨ga, oa, none⟩) n ca), (Value.slice (some ⟨gb, ob, none⟩) n cb), .slice A k c, .int .i64 M] w (GotRows w (((mtF a b f o).take M).map intsOf)) := by
  intro f
  induction f with
  | zero =>
    intro ga oa ca gb ob cb A k c B o M w hf hk hx hM1 hM2 hga hgb hra hrb hv
    obtain rfl : n = k := by omega
    have hC := slices_Clone_ord (.slice A n c) B (intsOf o) w (by rw [intsOf_length]; omega) hv
    have HC := Lib.hid hC
    have Hne : Hid (intsOf o ≠ []) := fun e => by have h := congrArg List.length e; rw [intsOf_length] at h; simp at h; subst h; simp at hk; omega
    have HL : Hid ((intsOf o).length = n) := Lib.hid (by rw [intsOf_length]; exact hk)
    have HR : Hid (((mtF a b 0 o).take M).map intsOf = [intsOf o]) := Lib.hid (by
      show (([o] : List (List Nat)).take M).map intsOf = _
      rw [List.take_of_length_le (by simpa using hM1)]; rfl)
    rw [HR.out]
    clear hC hv hk hf hra hrb hga hgb hx HR
    go_enter Tryz.func199, Tryz.ntmps199
    go_wp2_with fail
    refine HC.out.mono ?_
    rintro e w1 ⟨v', rfl, -, h2, hb1⟩
    obtain ⟨g1, c1, rfl, ho1⟩ := h2 Hne.out
    rw [HL.out]
    have hO := Lib.hid (own_row1 hb1.size HL.out ho1)
    have hB1 := Lib.hid (hb1.alloc hb1.size (.cells #[(Value.slice (some ⟨g1, 0, none⟩) n c1)] 27))
    clear HC h2 ho1 hb1
    go_wp2_with fail
    go_ret
    exact GotRows.mk' _ 1 _ rfl rfl hO.out hB1.out
  | succ f ih =>
    intro ga oa ca gb ob cb A k c B o M w hf hk hx hM1 hM2 hga hgb hra hrb hv
    have IH := Lib.hid ih
    clear ih
    have hkn : k < n := by omega
    have Hk := Lib.hid hk
    have Hra := Lib.hid hra; have Hrb := Lib.hid hrb; have Hv := Lib.hid hv; have Hx := Lib.hid hx
    have Hf : Hid (f + (o.length + 1) = n) := Lib.hid (by omega)
    have hknz : ((k : Int) == (n : Int)) = false := by rw [beq_eq_false_iff_ne]; omega
    have Han := Lib.hid ha.1
    clear hra hrb hv hx hf hk
    go_enter Tryz.func199, Tryz.ntmps199
    go_wp2_with fail
    go_loopw [10, 11, 12, 13, 14, 27] (fun ov _ _ _ _ kv wr => ∃ (i p gO cO : Nat) (rs : List RowRef), i ≤ n ∧ p < M ∧ kv = .int .i64 i ∧ ov = (Value.slice (some ⟨gO, 0, none⟩) p cO) ∧ Hid (rs.length = p) ∧ Hid (contents rs = (prefM a b f o i).map intsOf) ∧ OwnRows wr w.heap.size gO cO rs ∧ Below w.heap.size w wr) (fun _ _ _ _ _ kv _ => n - (intOf kv).toNat)
    case atStart => exact ⟨0, 0, w.heap.size, 0, [], Nat.zero_le _, hM1, rfl, rfl, rfl, rfl, OwnRows.empty (Nat.le_refl _), (Below.refl _ _).alloc (Nat.le_refl _) _⟩
    case round =>
      obtain ⟨i, p, gO, cO, rs, hi, hpM, rfl, rfl, hp, hcont, ho, hbw⟩ := hrel
      by_cases hlt : i < n
      · have hCt := slices_Contains_ord (.slice A k c) B (i : Int) (intsOf o) wr (by rw [intsOf_length, Hk.out]; omega) (Hv.out.below hbw)
        rw [mem_intsOf] at hCt
        cases hcn : o.contains i with
        | true =>
          rw [hcn] at hCt
          have HCt := Lib.hid hCt
          have Hsk := Lib.hid (prefM_skip (a := a) (b := b) (f := f) (o := o) (i := i) (by rw [hcn]; rfl))
          clear hCt hcn
          go_wp2_with fail
          refine HCt.out.mono ?_
          rintro e w1 ⟨rfl, hs1⟩
          have ho1 := ho.still hs1
          have hb1 := below_still hbw hs1
          clear HCt ho hbw hs1
          go_wp2_with fail
          go_roundw
          case rel => exact ⟨i + 1, p, gO, cO, rs, by omega, hpM, by go_num, rfl, hp, by rw [Hsk.out]; exact hcont, ho1, hb1⟩
          case measure => simp [intOf]; omega
        | false =>
          rw [hcn] at hCt
          have HCt := Lib.hid hCt
          have Hcn := Lib.hid hcn
          clear hCt hcn
          go_wp2_with fail
          refine HCt.out.mono ?_
          rintro e w1 ⟨rfl, hs1⟩
          have ho1 := ho.still hs1
          have hb1 := below_still hbw hs1
          clear HCt ho hbw hs1
          rename World => w1
          go_wp2_with fail
          go_loopw [12, 13, 14, 35] (fun fv _ _ jv wr => ∃ (j q : Nat), j ≤ k ∧ jv = .int .i64 j ∧ fv = .bool (fitTo a b o i j) ∧ wr = w1.drewN q) (fun _ _ _ jv _ => k - (intOf jv).toNat)
          case atStart => exact ⟨0, 0, Nat.zero_le _, rfl, rfl, rfl⟩
          case round =>
            obtain ⟨j, q, hj, rfl, rfl, rfl⟩ := hrel
            by_cases hlt2 : j < k
            · obtain ⟨g0, c0, hA, hv0⟩ : ∃ g0 c0, A = some ⟨g0, 0, none⟩ ∧ Own w B g0 c0 (intsOf o) := by
                rcases Hv.out with ⟨e, -⟩ | ⟨g0, c0, e, h⟩
                · simp only [Value.slice.injEq] at e; omega
                · simp only [Value.slice.injEq] at e; exact ⟨g0, c0, e.1, h⟩
              subst hA
              have hbq : Below w.heap.size w w1 := hb1
              have hlo : (intsOf o).length = k := by rw [intsOf_length]; exact Hk.out
              have q0 := (hv0.below hbq hv0.lt).cell j (by rw [hlo]; exact hlt2)
              rw [intsOf_getD o j (by rw [Hk.out]; exact hlt2)] at q0
              have hxn : o.getD j 0 < n := Hx.out _ (by have : j < o.length := by rw [Hk.out]; exact hlt2
                                                        simp [List.getD, this])
              have hjn : j < n := by omega
              have hfs := fitTo_succ a b o i j
              rw [Hk.out] at hfs
              generalize o.getD j 0 = x at *
              have hra := Hra.out.below hbq hga
              have hrb := Hrb.out.below hbq hgb
              obtain ⟨r1, o1, c1, p1, -, p2⟩ := sq_cell ha hra hlt hxn
              obtain ⟨r2, o2, c2, p3, -, p4⟩ := sq_cell hb hrb hkn hjn
              obtain ⟨r3, o3, c3, p5, -, p6⟩ := sq_cell ha hra hxn hlt
              obtain ⟨r4, o4, c4, p7, -, p8⟩ := sq_cell hb hrb hjn hkn
              have Hfs := Lib.hid hfs
              clear hfs hra hrb hbq hlo hv0
              generalize ent a i x = E1 at *
              generalize ent b k j = E2 at *
              generalize ent a x i = E3 at *
              generalize ent b j k = E4 at *
              generalize hF2 : fitTo a b o i (j + 1) = F2 at *
              have HF2 := Lib.hid hF2
              clear hF2
              generalize fitTo a b o i j = F at *
              cases F with
              | true =>
                by_cases h1 : E1 = E2
                · subst h1
                  by_cases h2 : E3 = E4
                  · subst h2
                    have HF : Hid (F2 = true) := Lib.hid (by rw [Hfs.out]; simp)
                    go_wp2_with fail
                    go_quiet (fail)
                    go_wp2_with fail
                    go_roundw
                    case rel => exact ⟨j + 1, _, by omega, by go_num, by rw [HF2.out, HF.out], by first | rfl | exact World.drewN_drewN _ _ _⟩
                    case measure => simp [intOf]; omega
                  · have hb2 : (E3 == E4) = false := by rw [beq_eq_false_iff_ne]; exact h2
                    have HF : Hid (F2 = false) := Lib.hid (by rw [Hfs.out]; simp [h2])
                    go_wp2_with fail
                    go_quiet (fail)
                    go_wp2_with fail
                    go_roundw
                    case rel => exact ⟨j + 1, _, by omega, by go_num, by rw [HF2.out, HF.out], by first | rfl | exact World.drewN_drewN _ _ _⟩
                    case measure => simp [intOf]; omega
                · have hb2 : (E1 == E2) = false := by rw [beq_eq_false_iff_ne]; exact h1
                  have HF : Hid (F2 = false) := Lib.hid (by rw [Hfs.out]; simp [h1])
                  go_wp2_with fail
                  go_quiet (fail)
                  go_wp2_with fail
                  go_roundw
                  case rel => exact ⟨j + 1, _, by omega, by go_num, by rw [HF2.out, HF.out], by first | rfl | exact World.drewN_drewN _ _ _⟩
                  case measure => simp [intOf]; omega
              | false =>
                have HF : Hid (F2 = false) := Lib.hid (by rw [Hfs.out]; rfl)
                go_wp2_with fail
                go_quiet (fail)
                go_wp2_with fail
                go_roundw
                case rel => exact ⟨j + 1, _, by omega, by go_num, by rw [HF2.out, HF.out], by first | rfl | exact World.drewN_drewN _ _ _⟩
                case measure => simp [intOf]; omega
            · obtain rfl : j = k := by omega
              have hfe : fitTo a b o i j = fit a b o i := by unfold fit fitTo; rw [Hk.out]
              rw [hfe]
              clear hfe
              have ho2 := ho1.still ⟨q, rfl⟩
              have hb2 : Below w.heap.size w (w1.drewN q) := below_drewN hb1 q
              generalize w1.drewN q = w2 at *
              clear ho1 hb1
              cases hfit : fit a b o i with
              | false =>
                have Hsk := Lib.hid (prefM_skip (a := a) (b := b) (f := f) (o := o) (i := i) (by rw [hfit]; simp))
                clear hfit
                go_wp2_with fail
                go_roundw
                case rel => exact ⟨i + 1, p, gO, cO, rs, by omega, hpM, by go_num, rfl, hp, by rw [Hsk.out]; exact hcont, ho2, hb2⟩
                case measure => simp [intOf]; omega
              | true =>
                have Htk := Lib.hid (prefM_take (a := a) (b := b) (f := f) (o := o) (i := i) (by rw [hfit, Hcn.out]; rfl))
                have HC := Lib.hid (slices_Clone_ord (.slice A j c) B (intsOf o) w2 (by rw [intsOf_length, Hk.out]; omega) (Hv.out.below hb2))
                have Hlo : Hid ((intsOf o).length = j) := Lib.hid (by rw [intsOf_length]; exact Hk.out)
                have hpl : (prefM a b f o i).length = p := by
                  have h1 := congrArg List.length hcont.out
                  rw [contents_length, hp.out, List.length_map] at h1
                  exact h1.symm
                have HTk : Hid (prefM a b f o i ++ (mtF a b f (o ++ [i])).take (M - p) = (prefM a b f o (i + 1)).take M) := Lib.hid (by
                  rw [Htk.out, List.take_append, hpl, List.take_of_length_le (show (prefM a b f o i).length ≤ M by omega)])
                have HBr := Lib.hid (fun h => prefM_break (a := a) (b := b) (f := f) (o := o) (i := i + 1) (M := M) (by rw [Han.out]; omega) h)
                have Hpl := Lib.hid hpl
                have IH2 := Lib.hid (fun g5 c5 W (hW : Below w.heap.size w W) B5 (h5 : Own W B5 g5 c5 (intsOf (o ++ [i]))) => IH.out ga oa ca gb ob cb (some ⟨g5, 0, none⟩) (j + 1) c5 B5 (o ++ [i]) (M - p) W (by rw [List.length_append]; have := Hf.out; simp; omega) (by rw [List.length_append, Hk.out]; rfl)
                  (fun x hx => by rcases List.mem_append.1 hx with h | h; exact Hx.out x h; simp at h; subst h; exact hlt) (by omega) (by omega) (Nat.lt_of_lt_of_le hga hW.size) (Nat.lt_of_lt_of_le hgb hW.size) (Hra.out.below hW hga) (Hrb.out.below hW hgb)
                  (.inr ⟨g5, c5, by rw [intsOf_length, List.length_append, Hk.out]; rfl, h5⟩))
                clear hfit hpl Htk
                generalize hT : (mtF a b f (o ++ [i])).take (M - p) = T at *
                have HT := Lib.hid hT
                clear hT
                have hTl : Hid (T.length ≤ M - p) := Lib.hid (by rw [← HT.out, List.length_take]; omega)
                have hwm : IntKind.i64.wrap ((M : Int) - (p : Int)) = ((M - p : Nat) : Int) := by rw [IntWalk.i64_in _ ⟨by omega, by omega⟩]; omega
                go_wp2_with fail
                refine HC.out.mono ?_
                rintro e w3 ⟨v', rfl, hv3, -, hb3⟩
                clear HC
                go_wp2_with (at_builtin; refine wpList_append_ord (w := w3) rfl _ _ rfl w2.heap.size j v' (intsOf o) (i : Int) Hlo.out hv3 hb3.size rfl rfl (by omega) ?_)
                intro g5 c5 w5 ho5 hb5
                rw [← intsOf_push] at ho5
                have hb25 : Below w2.heap.size w2 w5 := hb3.trans hb5
                have hbw5 := hb2.trans (hb25.mono hb2.size)
                have HI := Lib.hid (IH2.out g5 c5 w5 hbw5 _ ho5)
                clear hv3 hb3 ho5 hb5 IH2
                go_wp2_with fail
                refine HI.out.mono ?_
                rintro e w6 ⟨g6, c6, rs6, rfl, hc6, ho6, hb6⟩
                have hlT : (T.map intsOf).length = T.length := List.length_map _
                rw [hlT]
                have hb26 := hb25.trans (hb6.mono hb25.size)
                have hbw6 := hbw5.trans (hb6.mono hbw5.size)
                have ho26 := ho2.below hb26
                have ho66 := ho6.mono hbw5.size
                have hne6 : ∀ r ∈ rs, ∀ s ∈ rs6, r.1 ≠ s.1 := fun r hr s hs e => by
                  have h1 := (ho2.2.1 r hr).lt
                  have h2 := (ho6.2.1 s hs).base
                  have h3 := hb25.size
                  omega
                have HL6 : Hid (rs6.length = T.length) := Lib.hid (by rw [← contents_length, hc6, hlT])
                have HC6 := Lib.hid hc6
                have hTl2 := hTl.out
                clear HI hlT hc6 ho6 hb6 hb26 hb25 hbw5 ho2 hb2
                generalize hu : T.length = u at *
                have Hu := Lib.hid hu
                clear hu
                go_wp2_with (at_builtin; refine wpList_append_rows rfl _ _ rfl w.heap.size gO cO p g6 c6 u rs rs6 w6 hp.out HL6.out ho26 ho66 hne6 rfl rfl (by omega) ?_)
                intro g9 c9 w9 ho9 hg9 hor9
                have hb9 := hbw6.grown hg9 hbw6.size (by intro q hq; cases hq; exact ho26.base)
                have HC9 : Hid (contents (rs ++ rs6) = ((prefM a b f o (i + 1)).take M).map intsOf) := Lib.hid (by
                  rw [← HTk.out, List.map_append, ← hcont.out, ← HC6.out]
                  simp [contents])
                have HL9 : Hid ((rs ++ rs6).length = p + u) := Lib.hid (by rw [List.length_append, hp.out, HL6.out])
                have HP9 : Hid (((prefM a b f o (i + 1)).take M).length = p + u) := Lib.hid (by rw [← HTk.out, List.length_append, Hpl.out, Hu.out])
                clear ho26 ho66 hne6 hg9 hor9 hbw6
                by_cases hbr : M ≤ p + u
                · have hz : (M : Int) ≤ ((p + u : Nat) : Int) := by omega
                  have hz2 : (M : Int) ≤ (p : Int) + (u : Int) := by omega
                  have HRes : Hid (contents (rs ++ rs6) = ((mtF a b (f + 1) o).take M).map intsOf) := Lib.hid (by
                    rw [HC9.out, HBr.out (by have := HP9.out; rw [List.length_take] at this; omega)])
                  go_wp2_with fail
                  go_ret
                  exact GotRows.mk' g9 c9 _ HL9.out HRes.out ho9 hb9
                · have hz : ¬ (M : Int) ≤ ((p + u : Nat) : Int) := by omega
                  have hz2 : ¬ (M : Int) ≤ (p : Int) + (u : Int) := by omega
                  have HRes : Hid (contents (rs ++ rs6) = (prefM a b f o (i + 1)).map intsOf) := Lib.hid (by
                    rw [HC9.out]
                    have := HP9.out
                    rw [List.length_take] at this
                    rw [List.take_of_length_le (by omega)])
                  go_wp2_with fail
                  go_roundw
                  case rel => exact ⟨i + 1, p + u, g9, c9, _, by omega, by omega, by go_num, rfl, HL9.out, HRes.out, ho9, hb9⟩
                  case measure => simp [intOf]; omega
      · obtain rfl : i = n := by omega
        have hfin : Hid ((mtF a b (f + 1) o).take M = prefM a b f o i) := Lib.hid (by
          rw [prefM_all, Han.out]
          exact List.take_of_length_le (by
            have h1 := congrArg List.length hcont.out
            rw [contents_length, hp.out, List.length_map] at h1
            omega))
        go_wp2_with fail
        go_ret
        rw [hfin.out]
        exact GotRows.mk' gO cO rs hp.out hcont.out ho hbw
end Go.Proofs.YtldcmhgpppeooaaGreatDoor
