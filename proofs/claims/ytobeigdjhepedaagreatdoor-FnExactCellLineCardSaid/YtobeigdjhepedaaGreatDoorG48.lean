/- Arrows between elements by the program: contract. What arrows reach, by the reference: contract. Cells by the reference: contract. -/
import Derived.Test.YtobeigdjhepedaaGreatDoorG45
import Derived.Test.YtobeigdjhepedaaGreatDoorG47
namespace Go.Proofs.YtobeigdjhepedaaGreatDoor
set_option maxRecDepth 100000
open Go.RowKit Game

theorem KzR.shorter {w : World} {k N gl cl gt ct gp cp b n s x : Nat} {L T : List (List Int)} {P : List (List (List Int))} (h : KzR w k N gl cl gt ct gp cp b L T P) (H : KlOk n N L T) (hs : s < n) (hx : x < N) :
    Calls Tryz.prog 85 #[.pointer (some ⟨k, 0, none⟩), .int .i64 (s : Int), .int .i64 (x : Int)] w (Reads w (.bool (Proofs.YtobeigdjhepedaaGreatDoor.shorter L T s x))) :=
  impl_shorter_ok k gl cl gt ct gp cp N n s x L T w H h.F h.hL h.hT hs hx
theorem KzR.mu {w : World} {k N gl cl gt ct gp cp b n z v : Nat} {L T : List (List Int)} {P : List (List (List Int))} (h : KzR w k N gl cl gt ct gp cp b L T P) (H : KlOk n N L T) (hz : z < N) (hv : v < N) :
    Calls Tryz.prog 84 #[.pointer (some ⟨k, 0, none⟩), .int .i64 (z : Int), .int .i64 (v : Int)] w (Reads w (.int .i64 (muI L (pol P z v) z v))) :=
  impl_mu_ok k gl cl gt ct gp cp N n z v L T (pol P z v) w H h.F h.hL hz hv (fun _ => h.hP z v hz hv)
def desAny (L T : List (List Int)) (i j t : Nat) : Bool := (List.range t).any fun s => shorter L T s j && !shorter L T s i
theorem desAny_succ (L T : List (List Int)) (i j t : Nat) : desAny L T i j (t + 1) = (desAny L T i j t || (shorter L T t j && !shorter L T t i)) := by simp [desAny, List.range_succ]

set_option maxHeartbeats 1000000 in
theorem impl_WGraph_no (gc oc n cc : Nat) (c : List (List Int)) (w : World) (hn : c.length = n) (hx : c.length ≤ 1048576) (hrl : ∀ j, j < c.length → (c.getD j []).length ≤ 1048576) (hk : klB c = false) (hgc : gc < w.heap.size) (hr : Rows2 w gc oc c) (hm : MaxL w) :
    Calls Tryz.prog 44 #[(Value.slice (some ⟨gc, oc, none⟩) n cc)] w (GotArrB w [] false) := by
  have Hc := Lib.hid (impl_newKazhdan_no gc oc n cc c w hn hx hrl hk hgc hr hm)
  clear hr hrl hk hm hn
  go_enter Tryz.func44, Tryz.ntmps44
  go_wp2_with fail
  refine Hc.out.mono ?_
  rintro e w1 ⟨rfl, hb1⟩
  go_wp2_with fail
  go_ret2
  exact ⟨_, 0, rfl, (OwnArr.empty (w := w1) (Nat.le_refl _)).mono hb1.size, hb1.alloc hb1.size _⟩
set_option maxRecDepth 100000 in
set_option maxHeartbeats 4000000 in
theorem impl_WGraph_yes (gc oc n cc : Nat) (c : List (List Int)) (w : World) (hn : c.length = n) (hk : klB c = true) (hgc : gc < w.heap.size) (hr : Rows2 w gc oc c) (hm : MaxL w) :
    Calls Tryz.prog 44 #[(Value.slice (some ⟨gc, oc, none⟩) n cc)] w (GotArrB w (arrI c.length (elemL c) (leftT c) (tabI (elemL c) (leftT c))) true) := by
  have H := klOk_of hk
  have hcall := impl_newKazhdan_yes gc oc n cc c w hn hk hgc hr hm
  have hn4 := (klB_grp hk).hC.2.1
  unfold GotKz at hcall
  have Hc := Lib.hid hcall
  unfold arrI
  clear hcall hr hm hk
  generalize tabI (elemL c) (leftT c) = P at *
  generalize leftT c = T at *
  generalize elemL c = L at *
  obtain ⟨N, hNL⟩ : ∃ N, L.length = N := ⟨_, rfl⟩
  rw [hNL] at H Hc ⊢
  have hN24 := H.few
  have HlR := Lib.hid (fun t => arrIRow_len c.length L T P (by omega) t)
  have HlT := Lib.hid (fun i t => arrITo_len c.length L T P i t)
  have HH := Lib.hid H; have HNL := Lib.hid hNL
  rw [hn] at HlR HlT HH ⊢
  clear hNL H
  go_enter Tryz.func44, Tryz.ntmps44
  go_wp2_with fail
  refine Hc.out.mono ?_
  rintro e w1 ⟨gk, gl, cl, gt, ct, gp, cp, bM, rfl, hgk, hK1, hb1⟩
  clear Hc
  obtain ⟨w2, hw2⟩ : ∃ w2, w2 = w1.alloc (.cells #[] 76) := ⟨_, rfl⟩
  have hO2 : OwnArr w2 w1.heap.size w1.heap.size 0 [] := by rw [hw2]; exact OwnArr.empty (Nat.le_refl _)
  have hb2 : Below w1.heap.size w1 w2 := by rw [hw2]; exact (Below.refl _ _).alloc (Nat.le_refl _) _
  have hKs := Lib.hid (fun (W : World) (h : Below w1.heap.size w1 W) => hK1.below h)
  have f0 := (hK1.below hb2).F.f0
  have hgl := hK1.F.lt
  have hf0 := Lib.hid (fun (W : World) (h : Below w1.heap.size w1 W) => (hK1.below h).F.f0)
  rw [hw2] at f0
  go_wp2_with fail
  rw [← hw2]
  clear hw2 f0 hK1
  go_loopw [6, 7, 8, 9, 10, 25] (fun ov _ _ _ _ iv wr => ∃ (i m g ca : Nat), i ≤ N ∧ iv = .int .i64 (i : Nat) ∧ ov = (Value.slice (some ⟨g, 0, none⟩) m ca) ∧ Hid ((arrIRow n L T P i).length = m) ∧ OwnArr wr w1.heap.size g ca (arrIRow n L T P i) ∧ Below w1.heap.size w1 wr) (fun _ _ _ _ _ iv _ => N - (intOf iv).toNat)
  case atStart => exact ⟨0, 0, w1.heap.size, 0, Nat.zero_le _, rfl, rfl, rfl, hO2, hb2⟩
  case round =>
    clear hO2 hb2
    obtain ⟨i, m, g, ca, hi, rfl, rfl, hml, ho, hb⟩ := hrel
    by_cases hlt : i < N
    · have f0 := hf0.out wr hb
      have hml0 : Hid ((arrIRow n L T P i ++ arrITo n L T P i 0).length = m) := Lib.hid (by rw [show arrITo n L T P i 0 = [] from rfl, List.append_nil]; exact hml.out)
      have ho0 : OwnArr wr w1.heap.size g ca (arrIRow n L T P i ++ arrITo n L T P i 0) := by rw [show arrITo n L T P i 0 = [] from rfl, List.append_nil]; exact ho
      clear ho hml
      go_wp2_with fail
      go_loopw [6, 8, 9, 10, 33] (fun ov _ _ _ jv wj => ∃ (j m g ca : Nat), j ≤ N ∧ jv = .int .i64 (j : Nat) ∧ ov = (Value.slice (some ⟨g, 0, none⟩) m ca) ∧ Hid ((arrIRow n L T P i ++ arrITo n L T P i j).length = m) ∧ OwnArr wj w1.heap.size g ca (arrIRow n L T P i ++ arrITo n L T P i j) ∧ Below w1.heap.size w1 wj) (fun _ _ _ _ jv _ => N - (intOf jv).toNat)
      case atStart => exact ⟨0, m, g, ca, Nat.zero_le _, rfl, rfl, hml0.out, ho0, hb⟩
      case round =>
        clear ho0 hb hml0 f0
        obtain ⟨j, m, g, ca, hj, rfl, rfl, hml, ho, hb⟩ := hrel
        by_cases hjN : j < N
        · have hm24 : m ≤ 600 := by
            have h1 := HlR.out i
            have h2 := HlT.out i j
            have h3 := hml.out
            rw [List.length_append] at h3
            omega
          have M1 := Lib.hid (fun (W : World) (h : Below w1.heap.size w1 W) => (hKs.out W h).mu HH.out hlt hjN)
          have M2 := Lib.hid (fun (W : World) (h : Below w1.heap.size w1 W) => (hKs.out W h).mu HH.out hjN hlt)
          have hsucc : arrITo n L T P i (j + 1) = arrITo n L T P i j ++ arrI1 n L T P i j := arrITo_succ n L T P i j
          have hS1 : arrI1 n L T P i j = if arrIm L P i j = 0 then [] else if desAny L T i j n then [(i, j, arrIm L P i j)] else [] := rfl
          have him : arrIm L P i j = wrap64 (muI L (pol P i j) i j + muI L (pol P j i) j i) := rfl
          generalize muI L (pol P i j) i j = m1 at *
          generalize muI L (pol P j i) j i = m2 at *
          generalize arrIm L P i j = mz at *
          have hw1 : IntKind.i64.wrap (m1 + m2) = mz := by rw [him]; simp only [wrap64, IntKind.wrap_i64]
          have Hsu := Lib.hid hsucc; have HS1 := Lib.hid hS1
          clear hsucc hS1 him
          go_wp2_with fail
          refine (M1.out wr hb).mono ?_
          rintro e w3 ⟨rfl, hs3⟩
          have hb3 := below_still hb hs3
          have ho3 := ho.still hs3
          clear hs3 hb ho M1
          go_wp2_with fail
          refine (M2.out w3 hb3).mono ?_
          rintro e w4 ⟨rfl, hs4⟩
          have hb4 := below_still hb3 hs4
          have ho4 := ho3.still hs4
          clear hs4 hb3 ho3 M2
          by_cases hm0 : mz = 0
          · have e0 : (mz == 0) = true := by rw [beq_iff_eq]; exact hm0
            have hs : arrITo n L T P i (j + 1) = arrITo n L T P i j := by rw [Hsu.out, HS1.out, if_pos hm0, List.append_nil]
            have Hs := Lib.hid hs
            clear hs hm0
            go_wp2_with fail
            go_roundw
            case rel => exact ⟨j + 1, m, g, ca, by omega, by go_num, rfl, by rw [Hs.out]; exact hml.out, by rw [Hs.out]; exact ho4, hb4⟩
            case measure => simp [intOf]; omega
          · have e0 : (mz == 0) = false := by rw [beq_eq_false_iff_ne]; exact hm0
            have hS2 := HS1.out
            rw [if_neg hm0] at hS2
            have HS2 := Lib.hid hS2
            clear hS2 HS1
            go_wp2_with fail
            go_loopw [6, 10, 49] (fun ov _ sv wr => ∃ s : Nat, s ≤ n ∧ sv = .int .i64 (s : Nat) ∧ ov = (Value.slice (some ⟨g, 0, none⟩) m ca) ∧ Hid (desAny L T i j s = false) ∧ OwnArr wr w1.heap.size g ca (arrIRow n L T P i ++ arrITo n L T P i j) ∧ Below w1.heap.size w1 wr) (fun _ _ sv _ => n - (intOf sv).toNat)
            case atStart => exact ⟨0, Nat.zero_le _, rfl, rfl, rfl, ho4, hb4⟩
            case round =>
              clear ho4 hb4
              obtain ⟨s, hs, rfl, rfl, hno, ho, hb⟩ := hrel
              by_cases hsn : s < n
              · have B1 := (hKs.out wr hb).shorter HH.out hsn hjN
                have B2 := Lib.hid (fun (W : World) (h : Below w1.heap.size w1 W) => (hKs.out W h).shorter HH.out hsn hlt)
                have hsu := desAny_succ L T i j s
                rw [hno.out, Bool.false_or] at hsu
                generalize shorter L T s j = b1 at *
                generalize shorter L T s i = b2 at *
                have HB1 := Lib.hid B1
                clear B1
                cases b1 with
                | false =>
                  have Hn := Lib.hid (show desAny L T i j (s + 1) = false from hsu)
                  clear hsu hno B2
                  go_wp2_with fail
                  refine HB1.out.mono ?_
                  rintro e w5 ⟨rfl, hs5⟩
                  have hb5 := below_still hb hs5
                  have ho5 := ho.still hs5
                  clear hs5 hb ho HB1
                  go_wp2_with fail
                  go_roundw
                  case rel => exact ⟨s + 1, by omega, by go_num, rfl, Hn.out, ho5, hb5⟩
                  case measure => simp [intOf]; omega
                | true =>
                  go_wp2_with fail
                  refine HB1.out.mono ?_
                  rintro e w5 ⟨rfl, hs5⟩
                  have hb5 := below_still hb hs5
                  have ho5 := ho.still hs5
                  clear hs5 hb ho HB1
                  go_wp2_with fail
                  refine (B2.out w5 hb5).mono ?_
                  rintro e w6 ⟨rfl, hs6⟩
                  have hb6 := below_still hb5 hs6
                  have ho6 := ho5.still hs6
                  clear hs6 hb5 ho5 B2
                  cases b2 with
                  | true =>
                    have Hn := Lib.hid (show desAny L T i j (s + 1) = false from hsu)
                    clear hsu hno
                    go_wp2_with fail
                    go_roundw
                    case rel => exact ⟨s + 1, by omega, by go_num, rfl, Hn.out, ho6, hb6⟩
                    case measure => simp [intOf]; omega
                  | false =>
                    have hany : desAny L T i j n = true := by
                      have h1 : desAny L T i j (s + 1) = true := hsu
                      unfold desAny at h1 ⊢
                      rw [List.any_eq_true] at h1 ⊢
                      obtain ⟨x, hx, h2⟩ := h1
                      exact ⟨x, List.mem_range.2 (by have := List.mem_range.1 hx; omega), h2⟩
                    have hs2 : arrIRow n L T P i ++ arrITo n L T P i (j + 1) = arrIRow n L T P i ++ arrITo n L T P i j ++ [(i, j, mz)] := by
                      rw [Hsu.out, HS2.out, if_pos hany, List.append_assoc]
                    have Hs := Lib.hid hs2
                    have hml6 : Hid ((arrIRow n L T P i ++ arrITo n L T P i (j + 1)).length = m + 1) := Lib.hid (by rw [hs2, List.length_append, hml.out]; rfl)
                    clear hs2 hany hsu hno
                    generalize arrIRow n L T P i ++ arrITo n L T P i j = A at *
                    go_wp2_with (at_builtin; refine wpList_append_arr (w := w6) rfl _ _ rfl w1.heap.size g ca m w6.heap.size A (i, j, mz) _ hml.out rfl rfl ho6 rfl rfl (by omega) ?_)
                    intro g7 c7 w7 ho7 hg7 hor7
                    have hB7 := hb6.grown hg7 hb6.size (by intro t ht; cases ht; exact ho6.base)
                    rw [← Hs.out] at ho7
                    clear ho6 hb6 hg7 hor7
                    go_wp2_with fail
                    go_roundw
                    case rel => exact ⟨j + 1, m + 1, g7, c7, by omega, by go_num, rfl, hml6.out, ho7, hB7⟩
                    case measure => simp [intOf]; omega
              · obtain rfl : s = n := by omega
                have hs2 : arrITo s L T P i (j + 1) = arrITo s L T P i j := by rw [Hsu.out, HS2.out, if_neg (by rw [hno.out]; decide), List.append_nil]
                have Hs := Lib.hid hs2
                clear hs2
                go_wp2_with fail
                go_roundw
                case rel => exact ⟨j + 1, m, g, ca, by omega, by go_num, rfl, by rw [Hs.out]; exact hml.out, by rw [Hs.out]; exact ho, hb⟩
                case measure => simp [intOf]; omega
        · obtain rfl : j = N := by omega
          go_wp2_with fail
          go_roundw
          case rel => exact ⟨i + 1, m, g, ca, by omega, by go_num, rfl, by rw [arrIRow_succ, HNL.out]; exact hml.out, by rw [arrIRow_succ, HNL.out]; exact ho, hb⟩
          case measure => simp [intOf]; omega
    · obtain rfl : i = N := by omega
      go_wp2_with fail
      go_ret2
      exact GotArrB.mk' g ca hml.out (ho.mono hb1.size) (hb1.trans (hb.mono hb1.size))
end Go.Proofs.YtobeigdjhepedaaGreatDoor
namespace Go.Proofs.YtobeigdjhepedaaGreatDoor
set_option maxRecDepth 100000
open Go.RowKit Game

abbrev Bq := List Bool × List Nat
structure BfOk (N : Nat) (s : Bq) : Prop where
  len : s.1.length = N
  pts : ∀ x ∈ s.2, x < N
  cnt : s.2.length = (s.1.filter id).length
theorem filter_set {l : List Bool} : ∀ {i : Nat}, i < l.length → l.getD i false = false → ((l.set i true).filter id).length = (l.filter id).length + 1 := by
  induction l with
  | nil => intro i h _; simp at h
  | cons b l ih =>
    intro i h hb
    cases i with
    | zero =>
      simp at hb
      subst hb
      simp
    | succ i =>
      have := ih (i := i) (by simpa using h) (by simpa using hb)
      cases b <;> simp [this]
theorem BfOk.few {N : Nat} {s : Bq} (h : BfOk N s) : s.2.length ≤ N := by rw [h.cnt, ← h.len]; exact List.length_filter_le _ _
theorem BfOk.add {N : Nat} {s : Bq} {j : Nat} (h : BfOk N s) (hj : j < N) (hf : s.1.getD j false = false) : BfOk N (s.1.set j true, s.2 ++ [j]) where
  len := by simpa using h.len
  pts := fun x hx => by
    rcases List.mem_append.1 hx with e | e
    · exact h.pts x e
    · rw [List.mem_singleton] at e; omega
  cnt := by
    show (s.2 ++ [j]).length = _
    rw [filter_set (by rw [h.len]; exact hj) hf, List.length_append, h.cnt]; rfl
theorem BfOk.start {N x : Nat} (hx : x < N) : BfOk N ((List.replicate N false).set x true, [x]) := by
  have h0 : BfOk N (List.replicate N false, []) := ⟨by simp, by simp, by simp⟩
  have := h0.add hx (by simp [List.getD, hx])
  simpa using this
theorem bfsStep_yes {q : Nat} {s : Bq} {a : Arr} (h1 : a.1 = q) (h2 : s.1.getD a.2.1 false = false) : bfsStep q s a = (s.1.set a.2.1 true, s.2 ++ [a.2.1]) := if_pos ⟨h1, h2⟩
theorem bfsStep_no1 {q : Nat} {s : Bq} {a : Arr} (h1 : a.1 ≠ q) : bfsStep q s a = s := if_neg (fun h => h1 h.1)
theorem bfsStep_no2 {q : Nat} {s : Bq} {a : Arr} (h2 : s.1.getD a.2.1 false = true) : bfsStep q s a = s := if_neg (fun h => by rw [h2] at h; exact absurd h.2 (by decide))
theorem bfsGo_end {A : List Arr} {f k : Nat} {s : Bq} (h : ¬ k < s.2.length) : bfsGo A f k s = s := by
  cases f with
  | zero => rfl
  | succ f => unfold bfsGo; rw [if_neg h]
theorem bfsGo_go {A : List Arr} {f k : Nat} {s : Bq} (h : k < s.2.length) : bfsGo A (f + 1) k s = bfsGo A f (k + 1) (A.foldl (bfsStep (s.2.getD k 0)) s) := by
  conv => lhs; unfold bfsGo
  rw [if_pos h]
def ArrIn (A : List Arr) (N : Nat) : Prop := ∀ a ∈ A, a.1 < N ∧ a.2.1 < N
structure BfRd (A : List Arr) (N k q i : Nat) (s s' : Bq) : Prop where
  ok : BfOk N s'
  got : (A.take i).foldl (bfsStep q) s = s'
  at_ : k < s'.2.length
  head : s'.2.getD k 0 = q
theorem BfRd.step {A : List Arr} {N k q i : Nat} {s s' : Bq} (h : BfRd A N k q i s s') (hA : ArrIn A N) (hi : i < A.length) :
    BfRd A N k q (i + 1) s (bfsStep q s' A[i]) := by
  have hin := hA A[i] (List.getElem_mem hi)
  have hg : (A.take (i + 1)).foldl (bfsStep q) s = bfsStep q s' A[i] := by
    rw [List.take_succ_eq_append_getElem hi, List.foldl_append, h.got]; rfl
  by_cases h1 : A[i].1 = q
  · by_cases h2 : s'.1.getD A[i].2.1 false = false
    · rw [bfsStep_yes h1 h2] at hg ⊢
      refine ⟨h.ok.add hin.2 h2, hg, by have := h.at_; simp; omega, ?_⟩
      show (s'.2 ++ [A[i].2.1]).getD k 0 = q
      rw [List.getD, List.getElem?_append_left h.at_]; exact h.head
    · rw [bfsStep_no2 (by simpa using h2)] at hg ⊢
      exact ⟨h.ok, hg, h.at_, h.head⟩
  · rw [bfsStep_no1 h1] at hg ⊢
    exact ⟨h.ok, hg, h.at_, h.head⟩
def GotBs (w : World) (bs : List Bool) (e : Ending) (w' : World) : Prop := ∃ g cap, e = .returned (Value.slice (some ⟨g, 0, none⟩) bs.length cap) ∧ OwnBs w' w.heap.size g cap bs ∧ Below w.heap.size w w'

set_option maxRecDepth 100000 in
set_option maxHeartbeats 4000000 in
theorem spec_l24Reach_ok (ga ca na N x B : Nat) (A : List Arr) (w : World) (hna : A.length = na) (hN : N ≤ 24) (hx : x < N) (hl : na ≤ 1000) (hin : ArrIn A N) (hA : OwnArr w B ga ca A) :
    Calls Tryz.prog 41 #[(Value.slice (some ⟨ga, 0, none⟩) na ca), .int .i64 (N : Int), .int .i64 (x : Int)] w (GotBs w (bfs A N x)) := by
  have hfin : bfs A N x = (bfsGo A (N + 1) 0 ((List.replicate N false).set x true, [x])).1 := rfl
  obtain ⟨FIN, hFIN⟩ : ∃ FIN, bfsGo A (N + 1) 0 ((List.replicate N false).set x true, [x]) = FIN := ⟨_, rfl⟩
  rw [hfin, hFIN]
  have HF := Lib.hid hFIN; have Hna := Lib.hid hna; have Hin := Lib.hid hin
  have hga := hA.lt
  have HA := Lib.hid (fun (W : World) (h : Below w.heap.size w W) (i : Nat) (hi : i < A.length) => (hA.below h hA.lt).cell hi)
  have hxI : (x : Int) < (N : Int) := by omega
  clear hfin hFIN hna hin hA
  go_enter Tryz.func41, Tryz.ntmps41
  go_wp2_with (at_make; refine wpList_make_bs rfl _ _ rfl w.heap.size N _ rfl rfl rfl (by omega) (Nat.le_refl _) ?_)
  intro w1 hown1 hgr1
  have hB1 : Below w.heap.size w w1 := below_of_grown hgr1
  have q1 := hown1.cell x (by simpa using hx)
  have f1 := hown1.frozen x
  have hs1 := hown1.set x true
  have hB2 := hB1.grown hs1.2 hB1.size (by intro t ht; cases ht; exact Nat.le_refl _)
  have hos := hs1.1
  have hgs := hown1.lt
  have hszs : (w1.setCell ⟨w.heap.size, x, none⟩ (.bool true)).heap.size = w1.heap.size := by simp
  generalize (List.replicate N false).getD x false = b0 at q1
  clear hgr1 hs1 hown1 hB1
  go_wp2_with fail
  generalize hw2 : w1.setCell ⟨w.heap.size, x, none⟩ (.bool true) = w2 at *
  have hoq2 : Own (w2.alloc (.cells #[.int .i64 (x : Int)] 3)) w.heap.size w1.heap.size 1 (intsOf [x]) := by
    have := Own.new (w := w2) (B := w.heap.size) (x : Int) (by omega)
    rw [hszs] at this; exact this
  have hos2 := hos.alloc (.cells #[.int .i64 (x : Int)] 3)
  have hB3 : Below w.heap.size w (w2.alloc (.cells #[.int .i64 (x : Int)] 3)) := hB2.alloc hB2.size _
  generalize w2.alloc (.cells #[.int .i64 (x : Int)] 3) = w3 at *
  have hst := BfOk.start hx
  generalize ((List.replicate N false).set x true) = S0 at *
  generalize hgse : w.heap.size = gs at *
  clear hB2 hos q1 f1 hszs hw2
  have Hst := Lib.hid hst
  go_loopw [8, 9, 10] (fun qv kv _ wr => ∃ (f k gq cq m : Nat) (s : Bq), f + k = N + 1 ∧ kv = .int .i64 (k : Nat) ∧ qv = (Value.slice (some ⟨gq, 0, none⟩) m cq) ∧ Hid (s.2.length = m) ∧ Hid (bfsGo A f k s = FIN) ∧ Hid (BfOk N s) ∧ OwnBs wr gs gs N s.1 ∧ Own wr gs gq cq (intsOf s.2) ∧ gs ≠ gq ∧ Below gs w wr) (fun _ kv _ _ => N + 1 - (intOf kv).toNat)
  case atStart => exact ⟨N + 1, 0, w1.heap.size, 1, 1, (S0, [x]), by omega, rfl, rfl, rfl, HF.out, Hst.out, hos2, hoq2, by omega, hB3⟩
  case round =>
    clear hos2 hoq2 hB3 hst Hst
    obtain ⟨f, k, gq, cq, m, s, hfk, rfl, rfl, hsl, hbf, hok, hos, hoq, hne, hB⟩ := hrel
    have hmN : m ≤ N := by have := hok.out.few; have := hsl.out; omega
    by_cases hlt : k < m
    · obtain ⟨f', rfl⟩ : ∃ f', f = f' + 1 := ⟨f - 1, by omega⟩
      have hgo := bfsGo_go (A := A) (f := f') (k := k) (s := s) (by rw [hsl.out]; exact hlt)
      have hg2 := hbf.out
      rw [hgo] at hg2
      have hR0 : BfRd A N k (s.2.getD k 0) 0 s s := ⟨hok.out, rfl, by rw [hsl.out]; exact hlt, rfl⟩
      have hqN : s.2.getD k 0 < N := hok.out.pts _ (by have := hsl.out; rw [show s.2.getD k 0 = s.2[k]'(by omega) by simp [List.getD, show k < s.2.length by omega]]; exact List.getElem_mem _)
      generalize s.2.getD k 0 = q at *
      have Hg2 := Lib.hid hg2; have HR0 := Lib.hid hR0
      clear hgo hg2 hbf hok hR0
      go_wp2_with fail
      go_loopw [8, 10] (fun qv iv wj => ∃ (i gq cq m : Nat) (s' : Bq), i ≤ na ∧ iv = .int .i64 (i : Nat) ∧ qv = (Value.slice (some ⟨gq, 0, none⟩) m cq) ∧ Hid (s'.2.length = m) ∧ Hid (BfRd A N k q i s s') ∧ OwnBs wj gs gs N s'.1 ∧ Own wj gs gq cq (intsOf s'.2) ∧ gs ≠ gq ∧ Below gs w wj) (fun _ iv _ => na - (intOf iv).toNat)
      case atStart => exact ⟨0, gq, cq, m, s, Nat.zero_le _, rfl, rfl, hsl.out, HR0.out, hos, hoq, hne, hB⟩
      case round =>
        clear hos hoq hne hB hsl
        obtain ⟨i, gq, cq, m, s', hi, rfl, rfl, hsl, hR, hos, hoq, hne, hB⟩ := hrel
        have hmN' : m ≤ N := by have := hR.out.ok.few; have := hsl.out; omega
        have hkm : k < m := by rw [← hsl.out]; exact hR.out.at_
        by_cases hil : i < na
        · have hia : i < A.length := by rw [Hna.out]; exact hil
          have hR2 := hR.out.step Hin.out hia
          obtain ⟨c1, c2, -⟩ := HA.out wr hB i hia
          obtain ⟨hi1, hi2⟩ := Hin.out A[i] (List.getElem_mem hia)
          have qk := hoq.cell k (by rw [intsOf_length, hsl.out]; exact hkm)
          rw [intsOf_getD _ _ (by rw [hsl.out]; exact hkm), hR.out.head] at qk
          have hj := hos.cell A[i].2.1 (by rw [hR.out.ok.len]; exact hi2)
          have hfj := hos.frozen A[i].2.1
          have hset := hos.set A[i].2.1 true
          have hy := fun h1 h2 => bfsStep_yes (q := q) (s := s') (a := A[i]'hia) h1 h2
          have hn1 := fun h1 => bfsStep_no1 (q := q) (s := s') (a := A[i]'hia) h1
          have hn2 := fun h2 => bfsStep_no2 (q := q) (s := s') (a := A[i]'hia) h2
          have HR2 := Lib.hid hR2; have Hset := Lib.hid hset; have Hy := Lib.hid hy; have Hn1 := Lib.hid hn1; have Hn2 := Lib.hid hn2
          have hiI : (i : Int) < (na : Int) := by omega
          clear hR2 hset hy hn1 hn2 hR
          generalize A[i] = a at *
          obtain ⟨a1, a2, a3⟩ := a
          dsimp only at *
          generalize hsv : s'.1.getD a2 false = sv at *
          by_cases hq : a1 = q
          · have e1 : (((a1 : Nat) : Int) == ((q : Nat) : Int)) = true := by rw [beq_iff_eq]; omega
            have e1' : (a1 == q) = true := by rw [beq_iff_eq]; exact hq
            have ha2I : (a2 : Int) < (N : Int) := by omega
            cases sv with
            | true =>
              have Hn := Lib.hid (Hn2.out rfl)
              clear Hy Hn1 Hn2
              rw [Hn.out] at HR2
              go_wp2_with fail
              go_quiet (fail)
              go_wp2_with fail
              have hos3 : OwnBs (wr.drewN nq) gs gs N s'.1 := hos
              have hoq3 : Own (wr.drewN nq) gs gq cq (intsOf s'.2) := hoq
              have hB3 := below_drewN hB nq
              clear hos hoq hB
              go_roundw
              case rel => exact ⟨i + 1, gq, cq, m, s', by omega, by go_num, rfl, hsl.out, HR2.out, hos3, hoq3, hne, hB3⟩
              case measure => simp [intOf]; omega
            | false =>
              have Hn := Lib.hid (Hy.out hq rfl)
              clear Hy Hn1 Hn2
              rw [Hn.out] at HR2
              go_wp2_with fail
              go_quiet (fail)
              have m2 : ((wr.drewN nq).setCell ⟨gs, a2, none⟩ (.bool true)).cell? ⟨ga, i * 3 + 1, none⟩ = some (.int .i64 (a2 : Int)) :=
                (World.cell?_of_block (a := ⟨ga, i * 3 + 1, none⟩) (Below.heap_setCell (wr.drewN nq) _ _ _ (show ga ≠ gs by omega))).trans c2
              obtain ⟨hos4, hgr4⟩ := Hset.out
              have hos5 : OwnBs ((wr.drewN nq).setCell ⟨gs, a2, none⟩ (.bool true)) gs gs N (s'.1.set a2 true) := hos4
              have hgr5 : wr.grownBy ((wr.drewN nq).setCell ⟨gs, a2, none⟩ (.bool true)) (some gs) := ⟨hgr4.os, hgr4.tape, hgr4.output, hgr4.size, hgr4.block⟩
              have hgl0 := hos.lt
              have hoq5 := hoq.grown hgr5 (by intro e; cases e; exact hne rfl)
              have hB5 := hB.grown hgr5 (by omega) (by intro t ht; cases ht; exact Nat.le_refl _)
              have hsz5 : ((wr.drewN nq).setCell ⟨gs, a2, none⟩ (.bool true)).heap.size = wr.heap.size := by simp
              have hgsl := hos5.lt
              clear hos4 hgr4 hgr5 Hset
              go_wp2_with (at_builtin; refine wpList_append_int_n (w := (wr.drewN nq).setCell ⟨gs, a2, none⟩ (.bool true)) rfl _ _ rfl gs gq cq m (intsOf s'.2) (a2 : Int) (by rw [intsOf_length]; exact hsl.out) hoq5 rfl (by rw [hsz5]; rfl) (by omega) ?_)
              intro g6 c6 w6 ho6 hg6 hor6
              have hos6 := hos5.grown hg6 (by intro e; cases e; exact hne rfl)
              have hB6 := hB5.grown hg6 (by omega) (by intro t ht; cases ht; exact hoq5.base)
              have hne6 : gs ≠ g6 := by
                rcases hor6 with rfl | q
                · exact hne
                · omega
              have ho6' : Own w6 gs g6 c6 (intsOf (s'.2 ++ [a2])) := by
                have e : intsOf (s'.2 ++ [a2]) = intsOf s'.2 ++ [(a2 : Int)] := by simp [intsOf]
                rw [e]; exact ho6
              have hl6 : Hid ((s'.2 ++ [a2]).length = m + 1) := Lib.hid (by rw [List.length_append, hsl.out]; rfl)
              clear hos5 hoq5 hB5 ho6 hg6 hor6 m2 c1 c2 hos hoq hB
              go_wp2_with fail
              go_roundw
              case rel => exact ⟨i + 1, g6, c6, m + 1, (s'.1.set a2 true, s'.2 ++ [a2]), by omega, by go_num, rfl, hl6.out, HR2.out, hos6, ho6', hne6, hB6⟩
              case measure => simp [intOf]; omega
          · have e1 : (((a1 : Nat) : Int) == ((q : Nat) : Int)) = false := by rw [beq_eq_false_iff_ne]; omega
            have e1' : (a1 == q) = false := by rw [beq_eq_false_iff_ne]; exact hq
            have Hn := Lib.hid (Hn1.out hq)
            clear Hy Hn1 Hn2
            rw [Hn.out] at HR2
            go_wp2_with fail
            go_quiet (fail)
            go_wp2_with fail
            have hos3 : OwnBs (wr.drewN nq) gs gs N s'.1 := hos
            have hoq3 : Own (wr.drewN nq) gs gq cq (intsOf s'.2) := hoq
            have hB3 := below_drewN hB nq
            clear hos hoq hB
            go_roundw
            case rel => exact ⟨i + 1, gq, cq, m, s', by omega, by go_num, rfl, hsl.out, HR2.out, hos3, hoq3, hne, hB3⟩
            case measure => simp [intOf]; omega
        · obtain rfl : i = na := by omega
          have hend : A.foldl (bfsStep q) s = s' := by
            have := hR.out.got
            rw [← Hna.out, List.take_length] at this; exact this
          have Hgg : Hid (bfsGo A f' (k + 1) s' = FIN) := by have := Hg2.out; rw [hend] at this; exact this
          have Hok := Lib.hid hR.out.ok
          clear hR hend
          go_wp2_with fail
          go_roundw
          case rel => exact ⟨f', k + 1, gq, cq, m, s', by omega, by go_num, rfl, hsl.out, Hgg.out, Hok.out, hos, hoq, hne, hB⟩
          case measure => simp [intOf]; omega
    · have hend : s = FIN := by rw [← hbf.out, bfsGo_end (by rw [hsl.out]; exact hlt)]
      have hlen := hok.out.len
      subst hend
      have hkI : ¬ (k : Int) < (m : Int) := by omega
      go_wp2_with fail
      go_ret
      refine ⟨gs, N, by rw [hlen]; rfl, ?_, ?_⟩
      · rw [hgse]; exact hos
      · rw [hgse]; exact hB
end Go.Proofs.YtobeigdjhepedaaGreatDoor
namespace Go.Proofs.YtobeigdjhepedaaGreatDoor
set_option maxRecDepth 100000
open Go.RowKit Game

theorem cellL_succ (M : List (List Bool)) (t i : Nat) : cellL M (t + 1) i = cellL M t i ++ if ((M.getD i []).getD t false && (M.getD t []).getD i false) = true then [t] else [] := by
  unfold cellL
  rw [List.range_succ, List.filter_append]
  congr 1
  simp only [List.filter_cons, List.filter_nil]
theorem cellL_len (M : List (List Bool)) (t i : Nat) : (cellL M t i).length ≤ t := by
  unfold cellL; exact Nat.le_trans (List.length_filter_le _ _) (by simp)
theorem bfsStep_true {q x : Nat} {s : Bq} {a : Arr} (h : s.1.getD x false = true) : (bfsStep q s a).1.getD x false = true := by
  unfold bfsStep
  split
  · show (s.1.set a.2.1 true).getD x false = true
    by_cases e : a.2.1 = x
    · subst e
      by_cases hl : a.2.1 < s.1.length
      · simp [List.getD, hl]
      · rw [List.set_eq_of_length_le (by omega)]; exact h
    · rw [List.getD, List.getElem?_set_ne e]; exact h
  · exact h
theorem fold_true {q x : Nat} : ∀ {A : List Arr} {s : Bq}, s.1.getD x false = true → (A.foldl (bfsStep q) s).1.getD x false = true
  | [], _, h => h
  | a :: A, _, h => fold_true (A := A) (bfsStep_true (a := a) h)
theorem bfsGo_true {A : List Arr} {x : Nat} : ∀ (f k : Nat) (s : Bq), s.1.getD x false = true → (bfsGo A f k s).1.getD x false = true
  | 0, _, _, h => h
  | f + 1, k, s, h => by
    unfold bfsGo
    split
    · exact bfsGo_true f (k + 1) _ (fold_true h)
    · exact h
theorem bfs_self {A : List Arr} {N x : Nat} (hx : x < N) : (bfs A N x).getD x false = true := bfsGo_true _ _ _ (by simp [List.getD, hx])
theorem bfsStep_len {q : Nat} {s : Bq} {a : Arr} : (bfsStep q s a).1.length = s.1.length := by unfold bfsStep; split <;> simp
theorem fold_len {q : Nat} : ∀ {A : List Arr} {s : Bq}, (A.foldl (bfsStep q) s).1.length = s.1.length
  | [], _ => rfl
  | a :: A, s => by rw [List.foldl_cons, fold_len (A := A), bfsStep_len]
theorem bfsGo_len {A : List Arr} : ∀ (f k : Nat) (s : Bq), (bfsGo A f k s).1.length = s.1.length
  | 0, _, _ => rfl
  | f + 1, k, s => by
    unfold bfsGo
    split
    · rw [bfsGo_len f, fold_len]
    · rfl
theorem bfs_len (A : List Arr) (N x : Nat) : (bfs A N x).length = N := by unfold bfs; rw [bfsGo_len]; simp
theorem matB_row {A : List Arr} {N i : Nat} (hi : i < N) : (matB A N).getD i [] = bfs A N i := by simp [matB, List.getD, hi]
theorem cellL_self {A : List Arr} {N i : Nat} (hi : i < N) : i ∈ cellL (matB A N) N i := by
  unfold cellL
  rw [List.mem_filter]
  refine ⟨List.mem_range.2 hi, ?_⟩
  rw [matB_row hi, bfs_self hi]; rfl
theorem cellL_pos {A : List Arr} {N i : Nat} (hi : i < N) : 0 < (cellL (matB A N) N i).length := List.length_pos_of_mem (cellL_self hi)
theorem cellS_len (M : List (List Bool)) (N : Nat) : ∀ t, (cellSTo M N t).length ≤ t
  | 0 => by simp [cellSTo]
  | t + 1 => by
    have ih := cellS_len M N t
    rw [cellSTo_succ]
    split
    · rw [List.length_append]; simp; omega
    · omega
def cellsOfS (c : List (List Int)) : List (List Nat) :=
  if klB c = true then cellSTo (matB (arrS c (elemL c) (rowsS (elemL c) (leftT c))) (elemL c).length) (elemL c).length (elemL c).length else []
theorem OwnBR.bit {w : World} {B g cap N : Nat} {rr : List BRef} {A : List Arr} (h : OwnBR w B g cap rr) (hc : contB rr = matB A N) {i : Nat} (hi : i < N) :
    ∃ gi ci, w.cell? ⟨g, i, none⟩ = some (Value.slice (some ⟨gi, 0, none⟩) N ci) ∧ gi < w.heap.size ∧ ∀ j, j < N → w.cell? ⟨gi, j, none⟩ = some (.bool (((matB A N).getD i []).getD j false)) := by
  have hl : rr.length = N := by rw [← contB_length, hc]; simp [matB]
  obtain ⟨gi, ci, h1, h2, h3⟩ := h.at (i := i) (by omega)
  rw [hc] at h1 h3
  have e : ((matB A N).getD i []).length = N := by rw [matB_row hi, bfs_len]
  rw [e] at h1 h3
  exact ⟨gi, ci, h1, h2, h3⟩

theorem OwnBR.apart {w w' : World} {B g cap : Nat} {rr : List BRef} {E : TypeId} {vs : List Value} {B2 g2 cap2 : Nat} (h : OwnBR w B g cap rr) (ho : OwnV w B2 E g2 cap2 vs) (h1 : E ≠ 49) (h2 : E ≠ 4) (hg : w.grownBy w' (some g2)) : OwnBR w' B g cap rr := by
  have e1 : some g ≠ some g2 := fun e => ho.ne h.1 h1 (Option.some.inj e).symm
  refine ⟨h.1.grown hg e1, fun s hs => (h.2 s hs).grown hg fun e => ?_⟩
  exact ho.ne (h.2 s hs) h2 (Option.some.inj e).symm
theorem spec_LeftCells_no (gc oc n cc : Nat) (c : List (List Int)) (w : World) (hn : c.length = n) (hx : c.length ≤ 1048576) (hrl : ∀ j, j < c.length → (c.getD j []).length ≤ 1048576) (hk : klB c = false) (hgc : gc < w.heap.size) (hr : Rows2 w gc oc c) :
    Calls Tryz.prog 15 #[(Value.slice (some ⟨gc, oc, none⟩) n cc)] w (GotRowsB w [] false) := by
  have hX : Below w.heap.size w (w.alloc (.cells #[] 28)) := (by repeat (first | with_reducible exact Below.refl _ _ | with_reducible assumption | with_reducible refine below_drewN ?_ _ | with_reducible refine Below.drew ?_ | (with_reducible refine Below.alloc ?_ ?_ _; rotate_left; · first | (simp; done) | (simp; omega) | exact Below.size (by assumption) | (have hsz := Below.size (by assumption : Below _ _ _); simp at hsz ⊢; omega)) | (with_reducible refine Below.setCell ?_ ?_ _; rotate_left; · first | (simp; done) | (simp; omega))))
  have hE : OwnRows (w.alloc (.cells #[] 28)) w.heap.size w.heap.size 0 [] := OwnRows.empty (Nat.le_refl _)
  have Hc := Lib.hid (spec_WGraph_no gc oc n cc c (w.alloc (.cells #[] 28)) hn hx hrl hk (Nat.lt_of_lt_of_le hgc hX.size) (hr.below hX hgc))
  clear hr hrl hk
  go_enter Tryz.func15, Tryz.ntmps15
  go_wp2_with fail
  refine Hc.out.mono ?_
  rintro e w1 ⟨g1, c1, rfl, ho1, hb1⟩
  have hE1 := hE.below hb1
  have hb := hX.trans (hb1.mono hX.size)
  go_wp2_with fail
  go_ret2
  exact ⟨w.heap.size, 0, [], rfl, rfl, hE1, hb⟩
set_option maxRecDepth 100000 in
set_option maxHeartbeats 4000000 in
theorem spec_LeftCells_yes (gc oc n cc : Nat) (c : List (List Int)) (w : World) (hn : c.length = n) (hk : klB c = true) (hgc : gc < w.heap.size) (hr : Rows2 w gc oc c) :
    Calls Tryz.prog 15 #[(Value.slice (some ⟨gc, oc, none⟩) n cc)] w (GotRowsB w ((cellsOfS c).map intsOf) true) := by
  have hG := klB_grp hk
  have hC := hG.hC
  have hn4 := hC.2.1
  have hrl : ∀ j, j < c.length → (c.getD j []).length ≤ 1048576 := fun j hj => by rw [hC.2.2.1 j hj]; omega
  have hX : Below w.heap.size w (w.alloc (.cells #[] 28)) := (by repeat (first | with_reducible exact Below.refl _ _ | with_reducible assumption | with_reducible refine below_drewN ?_ _ | with_reducible refine Below.drew ?_ | (with_reducible refine Below.alloc ?_ ?_ _; rotate_left; · first | (simp; done) | (simp; omega) | exact Below.size (by assumption) | (have hsz := Below.size (by assumption : Below _ _ _); simp at hsz ⊢; omega)) | (with_reducible refine Below.setCell ?_ ?_ _; rotate_left; · first | (simp; done) | (simp; omega))))
  have hE : OwnRows (w.alloc (.cells #[] 28)) w.heap.size w.heap.size 0 [] := OwnRows.empty (Nat.le_refl _)
  have Hc := Lib.hid (spec_WGraph_yes gc oc n cc c (w.alloc (.cells #[] 28)) hn hk (Nat.lt_of_lt_of_le hgc hX.size) (hr.below hX hgc))
  have Hz := Lib.hid (fun (W : World) (hb : Below w.heap.size w W) => spec_SizeOf_any gc oc n cc c W hn (by omega) hrl (Nat.lt_of_lt_of_le hgc hb.size) (hr.below hb hgc))
  have hlen := klB_len hk
  have hcell : cellsOfS c = cellSTo (matB (arrS c (elemL c) (rowsS (elemL c) (leftT c))) (elemL c).length) (elemL c).length (elemL c).length := if_pos hk
  have hin : ArrIn (arrS c (elemL c) (rowsS (elemL c) (leftT c))) (elemL c).length := fun a ha => arrS_in ha
  have hal : (arrS c (elemL c) (rowsS (elemL c) (leftT c))).length ≤ 600 := by
    have h1 := arrSRow_len c (elemL c) (rowsS (elemL c) (leftT c)) hlen.1 (elemL c).length
    unfold arrS
    have := hlen.1
    omega
  rw [hcell]
  clear hr hrl hC hG hk hcell
  generalize arrS c (elemL c) (rowsS (elemL c) (leftT c)) = A at *
  obtain ⟨hN24, hsz⟩ := hlen
  rw [← hsz] at Hz
  generalize (elemL c).length = N at *
  have Hin := Lib.hid hin
  clear hsz hin
  obtain ⟨na, hna⟩ : ∃ na, A.length = na := ⟨_, rfl⟩
  have Hna := Lib.hid hna
  rw [hna] at hal
  clear hna
  go_enter Tryz.func15, Tryz.ntmps15
  go_wp2_with fail
  refine Hc.out.mono ?_
  rintro e w1 ⟨g1, c1, rfl, hA1, hb1⟩
  rw [Hna.out]
  have hE1 := hE.below hb1
  have hB1 := hX.trans (hb1.mono hX.size)
  clear hE hb1 hX Hc
  go_wp2_with fail
  refine (Hz.out w1 hB1).mono ?_
  rintro e w2 ⟨rfl, hb2⟩
  have hE2 := hE1.below hb2
  have hA2 := hA1.below hb2 hA1.lt
  have hB2 := hB1.trans (hb2.mono hB1.size)
  clear hE1 hA1 hB1 hb2 Hz
  obtain ⟨w3, hw3⟩ : ∃ w3, w3 = w2.alloc (.cells #[] 49) := ⟨_, rfl⟩
  have hR3 : OwnBR w3 w2.heap.size w2.heap.size 0 [] := by rw [hw3]; exact OwnBR.empty (Nat.le_refl _)
  have hb3 : Below w2.heap.size w2 w3 := by rw [hw3]; exact (Below.refl _ _).alloc (Nat.le_refl _) _
  go_wp2_with fail
  rw [← hw3]
  clear hw3
  go_loopw [8, 9, 10] (fun ov iv _ wr => ∃ (i g ca : Nat) (rr : List BRef), i ≤ N ∧ iv = .int .i64 (i : Nat) ∧ ov = (Value.slice (some ⟨g, 0, none⟩) i ca) ∧ Hid (rr.length = i) ∧ Hid (contB rr = (List.range i).map (bfs A N)) ∧ OwnBR wr w2.heap.size g ca rr ∧ Below w2.heap.size w2 wr) (fun _ iv _ _ => N - (intOf iv).toNat)
  case atStart => exact ⟨0, w2.heap.size, 0, [], Nat.zero_le _, rfl, rfl, rfl, rfl, hR3, hb3⟩
  case round =>
    clear hR3 hb3
    obtain ⟨i, g, ca, rr, hi, rfl, rfl, hrl, hrc, hR, hb⟩ := hrel
    by_cases hlt : i < N
    · have Hre := Lib.hid (spec_l24Reach_ok g1 c1 na N i w.heap.size A wr Hna.out hN24 hlt (by omega) Hin.out ((hA2.below hb hA2.lt).mono (by simp)))
      have hbl := bfs_len A N i
      have hcs : (List.range (i + 1)).map (bfs A N) = (List.range i).map (bfs A N) ++ [bfs A N i] := by rw [List.range_succ, List.map_append]; rfl
      generalize bfs A N i = bs at *
      have Hbl := Lib.hid hbl; have Hcs := Lib.hid hcs
      clear hbl hcs
      go_wp2_with fail
      refine Hre.out.mono ?_
      rintro e w4 ⟨g4, c4, rfl, ho4, hb4⟩
      rw [Hbl.out]
      have hR4 := hR.below hb4
      have hB4 := hb.trans (hb4.mono hb.size)
      have ho4' := ho4.mono hb.size
      have hl5 : Hid ((rr ++ [(g4, c4, bs)]).length = i + 1) := Lib.hid (by rw [List.length_append, hrl.out]; rfl)
      have hc5 : Hid (contB (rr ++ [(g4, c4, bs)]) = (List.range (i + 1)).map (bfs A N)) := Lib.hid (by rw [contB_append, hrc.out, Hcs.out]; rfl)
      have HV : Hid (brVal (g4, c4, bs) = (Value.slice (some ⟨g4, 0, none⟩) N c4)) := Lib.hid (by unfold brVal; rw [Hbl.out])
      clear hR hb ho4 hb4 Hre Hcs
      go_wp2_with (at_builtin; refine wpList_append_br (w := w4) rfl _ _ rfl w2.heap.size g ca i w4.heap.size rr (g4, c4, bs) _ hrl.out (by rw [HV.out]) rfl hR4 ho4' rfl rfl (by omega) ?_)
      intro g6 c6 w6 hR6 hg6 hor6
      have hB6 := hB4.grown hg6 hB4.size (by intro t ht; cases ht; exact hR4.base)
      clear hR4 ho4' hB4 hg6 hor6
      go_wp2_with fail
      go_roundw
      case rel => exact ⟨i + 1, g6, c6, _, by omega, by go_num, rfl, hl5.out, hc5.out, hR6, hB6⟩
      case measure => simp [intOf]; omega
    · obtain rfl : i = N := by omega
      have hM : Hid (contB rr = matB A i) := hrc
      have hcp := fun (k : Nat) (hk : k < i) => cellL_pos (A := A) hk
      have hbit := fun (W : World) (h : OwnBR W w2.heap.size g ca rr) (k : Nat) (hk : k < i) => h.bit hM.out hk
      have Hcp := Lib.hid hcp; have Hbit := Lib.hid hbit
      have hE4 := hE2.below hb
      have hB4 := hB2.trans (hb.mono hB2.size)
      generalize matB A i = M at *
      clear hcp hbit hrc hrl hE2 hA2 Hin Hna hb hM hB2
      go_wp2_with fail
      go_loopw [4, 11, 12, 13] (fun ov iv _ _ wr => ∃ (t m g6 c6 : Nat) (rs : List RowRef), t ≤ i ∧ iv = .int .i64 (t : Nat) ∧ ov = (Value.slice (some ⟨g6, 0, none⟩) m c6) ∧ Hid (rs.length = m) ∧ Hid (contents rs = (cellSTo M i t).map intsOf) ∧ OwnRows wr w.heap.size g6 c6 rs ∧ OwnBR wr w2.heap.size g ca rr ∧ Below w.heap.size w wr) (fun _ iv _ _ _ => i - (intOf iv).toNat)
      case atStart => exact ⟨0, 0, w.heap.size, 0, [], Nat.zero_le _, rfl, rfl, rfl, rfl, hE4, hR, hB4⟩
      case round =>
        clear hE4 hR hB4
        obtain ⟨t, m, g6, c6, rs, ht, rfl, rfl, hml, hmc, hO, hR, hb⟩ := hrel
        by_cases hti : t < i
        · have hm24 : m ≤ 24 := by
            have h1 := cellS_len M i t
            have h2 := hml.out
            rw [← contents_length, hmc.out, List.length_map] at h2
            omega
          obtain ⟨wr1, hwr1⟩ : ∃ wr1, wr1 = wr.alloc (.cells #[] 3) := ⟨_, rfl⟩
          have hbr : Below wr.heap.size wr wr1 := by rw [hwr1]; exact (Below.refl _ _).alloc (Nat.le_refl _) _
          have hor : Own wr1 wr.heap.size wr.heap.size 0 [] := by rw [hwr1]; exact Own.empty (w := wr) (Nat.le_refl _)
          go_wp2_with fail
          rw [← hwr1]
          generalize wr = wo at *
          go_loopw [12, 13] (fun cv kv wj => ∃ (k l gx cx : Nat), k ≤ i ∧ kv = .int .i64 (k : Nat) ∧ cv = (Value.slice (some ⟨gx, 0, none⟩) l cx) ∧ Hid ((cellL M k t).length = l) ∧ Own wj wo.heap.size gx cx (intsOf (cellL M k t)) ∧ Below wo.heap.size wo wj) (fun _ kv _ => i - (intOf kv).toNat)
          case atStart => exact ⟨0, 0, wo.heap.size, 0, Nat.zero_le _, rfl, rfl, rfl, hor, hbr⟩
          case round =>
            clear hor hbr hwr1
            obtain ⟨k, l, gx, cx, hk, rfl, rfl, hll, hoX, hbX⟩ := hrel
            by_cases hki : k < i
            · obtain ⟨ga', ca', r1, r2, r3⟩ := Hbit.out wo hR t hti
              obtain ⟨gb', cb', s1, s2, s3⟩ := Hbit.out wo hR k hki
              have r4 := r3 k hki
              have s4 := s3 t hti
              have hsu := cellL_succ M k t
              have hgm := hR.lt
              have m1 := (hbX.cell (p := ⟨g, t, none⟩) hgm).trans r1
              have m2 := (hbX.cell (p := ⟨g, k, none⟩) hgm).trans s1
              have m3 := (hbX.cell (p := ⟨ga', k, none⟩) r2).trans r4
              have m4 := (hbX.cell (p := ⟨gb', t, none⟩) s2).trans s4
              have hlk := cellL_len M k t
              have hll2 := hll.out
              generalize (M.getD t []).getD k false = b1 at *
              generalize (M.getD k []).getD t false = b2 at *
              have Hsu := Lib.hid hsu
              have hl24 : l ≤ 24 := by omega
              clear r1 r3 s1 s3 r4 s4 hsu hlk hll2
              by_cases hbb : (b1 && b2) = true
              · rw [Bool.and_eq_true] at hbb
                obtain ⟨rfl, rfl⟩ := hbb
                have hs := Hsu.out
                rw [if_pos (by rfl)] at hs
                have Hs := Lib.hid hs
                have hl6 : Hid ((cellL M (k + 1) t).length = l + 1) := Lib.hid (by rw [hs, List.length_append, hll.out]; rfl)
                have hi6 : intsOf (cellL M k t) ++ [(k : Int)] = intsOf (cellL M (k + 1) t) := by rw [hs]; simp [intsOf]
                have Hi6 := Lib.hid hi6
                clear hs Hsu hi6
                go_wp2_with (at_builtin; refine wpList_append_int_n (w := wr) rfl _ _ rfl wo.heap.size gx cx l (intsOf (cellL M k t)) (k : Int) (by rw [intsOf_length]; exact hll.out) hoX rfl rfl (by omega) ?_)
                intro g7 c7 w7 ho7 hg7 _
                rw [Hi6.out] at ho7
                have hb7 := hbX.grown hg7 hbX.size (by intro t ht; cases ht; exact hoX.base)
                clear hoX hbX hg7 m1 m2 m3 m4
                go_wp2_with fail
                go_roundw
                case rel => exact ⟨k + 1, l + 1, g7, c7, by omega, by go_num, rfl, hl6.out, ho7, hb7⟩
                case measure => simp [intOf]; omega
              · have hs := Hsu.out
                rw [if_neg hbb, List.append_nil] at hs
                have Hs := Lib.hid hs
                clear hs Hsu
                cases b1 with
                | false =>
                  clear hbb
                  go_wp2_with fail
                  go_roundw
                  case rel => exact ⟨k + 1, l, gx, cx, by omega, by go_num, rfl, by rw [Hs.out]; exact hll.out, by rw [Hs.out]; exact hoX, hbX⟩
                  case measure => simp [intOf]; omega
                | true =>
                  obtain rfl : b2 = false := by simpa using hbb
                  clear hbb
                  go_wp2_with fail
                  go_roundw
                  case rel => exact ⟨k + 1, l, gx, cx, by omega, by go_num, rfl, by rw [Hs.out]; exact hll.out, by rw [Hs.out]; exact hoX, hbX⟩
                  case measure => simp [intOf]; omega
            · obtain rfl : k = i := by omega
              have hpos := Hcp.out t hti
              have hl0 : 0 < l := by rw [← hll.out]; exact hpos
              have q0 := hoX.cell 0 (by rw [intsOf_length]; exact hpos)
              rw [intsOf_getD _ _ hpos] at q0
              have hsu := cellSTo_succ M k t
              have hhd : (cellL M k t).headD k = (cellL M k t).getD 0 0 := by
                cases hc : cellL M k t with
                | nil => rw [hc] at hpos; simp at hpos
                | cons a b => rfl
              rw [hhd] at hsu
              have hB := hb.trans (hbX.mono hb.size)
              have hO1 := hO.below hbX
              have hR1 := hR.below hbX
              have hoX1 := hoX.mono hb.size
              have hne : ∀ s ∈ rs, s.1 ≠ gx := fun s hs e => by have := (hO.2.1 s hs).lt; have := hoX.base; omega
              generalize (cellL M k t).getD 0 0 = x0 at *
              have Hsu := Lib.hid hsu
              clear hsu hhd hO hR hb hbX hoX
              by_cases hx0 : x0 = t
              · have e0 : ((x0 : Int) == (t : Int)) = true := by rw [beq_iff_eq]; omega
                have hs := Hsu.out
                rw [if_pos hx0] at hs
                have hl4 : Hid ((rs ++ [(gx, cx, intsOf (cellL M k t))]).length = m + 1) := Lib.hid (by rw [List.length_append, hml.out]; rfl)
                have hc4 : Hid (contents (rs ++ [(gx, cx, intsOf (cellL M k t))]) = (cellSTo M k (t + 1)).map intsOf) := Lib.hid (by rw [contents_append, hmc.out, hs, List.map_append]; rfl)
                have HV : Hid (rowVal (gx, cx, intsOf (cellL M k t)) = (Value.slice (some ⟨gx, 0, none⟩) l cx)) := Lib.hid (by unfold rowVal; rw [intsOf_length, hll.out])
                clear hs Hsu hx0
                go_wp2_with (at_builtin; refine wpList_append_row (w := wr) rfl _ _ rfl w.heap.size g6 c6 m wr.heap.size rs (gx, cx, intsOf (cellL M k t)) _ hml.out (by rw [HV.out]) rfl hO1 hoX1 hne rfl rfl (by omega) ?_)
                intro g7 c7 w7 ho7 hg7 hor7
                have hR7 := hR1.apart hO1.1 (by decide) (by decide) hg7
                have hB7 := hB.grown hg7 hB.size (by intro t ht; cases ht; exact hO1.base)
                clear hO1 hoX1 hB hg7 hne hor7 hR1
                go_wp2_with fail
                go_roundw
                case rel => exact ⟨t + 1, m + 1, g7, c7, _, by omega, by go_num, rfl, hl4.out, hc4.out, ho7, hR7, hB7⟩
                case measure => simp [intOf]; omega
              · have e0 : ((x0 : Int) == (t : Int)) = false := by rw [beq_eq_false_iff_ne]; omega
                have hs := Hsu.out
                rw [if_neg hx0] at hs
                have Hs := Lib.hid hs
                have e0' : (x0 == t) = false := by rw [beq_eq_false_iff_ne]; exact hx0
                clear hs Hsu hx0
                go_wp2_with fail
                go_roundw
                case rel => exact ⟨t + 1, m, g6, c6, rs, by omega, by go_num, rfl, hml.out, by rw [Hs.out]; exact hmc.out, hO1, hR1, hB⟩
                case measure => simp [intOf]; omega
        · obtain rfl : t = i := by omega
          go_wp2_with fail
          go_ret2
          exact GotRowsB.mk' g6 c6 rs hml.out hmc.out hO hb
end Go.Proofs.YtobeigdjhepedaaGreatDoor
