/- The reference's RootsUpTo and PositiveRoots at finite types: contracts. -/
import Derived.Test.YtldcmhgpppeooaaGreatDoorG15
import Derived.Test.YtldcmhgpppeooaaGreatDoorG39
import Derived.Test.YtldcmhgpppeooaaGreatDoorG14
import Derived.Test.YtldcmhgpppeooaaGreatDoorG25
namespace Go.Proofs.YtldcmhgpppeooaaGreatDoor
set_option maxRecDepth 100000
open Go.RowKit

/-- all rows are as long as the matrix -/
def Rl (n : Nat) (Q : List (List Int)) : Prop := ∀ x ∈ Q, x.length = n
theorem Rl.put {n : Nat} {Q : List (List Int)} {v : List Int} (h : Rl n Q) (hv : v.length = n) : Rl n (putR Q v) := fun x hx => by
  rcases mem_putR.1 hx with rfl | hx
  · exact hv
  · exact h x hx
theorem Rl.step {n : Nat} {c Q : List (List Int)} {k i : Nat} (h : Rl n Q) (hk : k < Q.length) : Rl n (upStep c Q k i) := fun x hx => by
  rcases upStep_mem hx with hx | ⟨rfl, -, -⟩
  · exact h x hx
  · rw [mirL_length]
    exact h _ (by simp [List.getD, hk])
theorem Rl.row {n : Nat} {c Q : List (List Int)} {k : Nat} (h : Rl n Q) (hk : k < Q.length) : ∀ i, Rl n (upRow c Q k i)
  | 0 => h
  | i + 1 => Rl.step (Rl.row h hk i) (Nat.lt_of_lt_of_le hk (upRow_len i))
theorem Rl.start (n : Nat) : ∀ i, Rl n (upStart n i)
  | 0 => fun _ h => by cases h
  | i + 1 => (Rl.start n i).put (simpL_length n i)
theorem Rl.go {n : Nat} {c : List (List Int)} : ∀ (f k : Nat) (Q : List (List Int)), Rl n Q → Rl n (upGo c f k Q)
  | 0, _, _, h => h
  | f + 1, k, Q, h => by
    unfold upGo
    split
    · rename_i hk
      exact Rl.go f (k + 1) _ (h.row hk _)
    · exact h
theorem posL_rl (c : List (List Int)) : Rl c.length (posL c) := Rl.go _ _ _ (Rl.start _ _)
theorem upRow_mono {c Q : List (List Int)} {k i : Nat} : ∀ j, i ≤ j → (upRow c Q k i).length ≤ (upRow c Q k j).length := by
  intro j hj
  induction j with
  | zero => obtain rfl : i = 0 := by omega
            exact Nat.le_refl _
  | succ j ih =>
    by_cases e : i = j + 1
    · subst e; exact Nat.le_refl _
    · exact Nat.le_trans (ih (by omega)) upStep_len
theorem upStep_put {c Q : List (List Int)} {k i : Nat} {x r : List Int} (hx : Q.getD k [] = x) (hr : mirL c i x = r) (h1 : posB r = true) (h2 : heightL r ≤ 12) (h3 : heightL x < heightL r) (h4 : r ∉ Q) : upStep c Q k i = putR Q r := by
  unfold upStep; simp only [hx, hr]; rw [if_pos ⟨h1, h2, h3, h4⟩]
theorem upStep_keep {c Q : List (List Int)} {k i : Nat} {x r : List Int} (hx : Q.getD k [] = x) (hr : mirL c i x = r) (h : ¬ (posB r = true ∧ heightL r ≤ 12 ∧ heightL x < heightL r ∧ r ∉ Q)) : upStep c Q k i = Q := by
  unfold upStep; simp only [hx, hr]; rw [if_neg h]

set_option maxRecDepth 100000 in
set_option maxHeartbeats 8000000 in
theorem spec_RootsUpTo_ok (gc oc n cc : Nat) (c : List (List Int)) (w : World) (hn : c.length = n) (hC : IsC c) (hP : PosOk c) (hgc : gc < w.heap.size) (hr : Rows2 w gc oc c) :
    Calls Tryz.prog 97 #[(Value.slice (some ⟨gc, oc, none⟩) n cc), .int .i64 12] w (GotRows w (posL c)) := by
  subst hn
  have hn4 := hC.2.1
  have hcl : ∀ j, j < c.length → (c.getD j []).length = c.length := hC.2.2.1
  have Hcl := Lib.hid hcl; clear hcl
  have Hr := Lib.hid hr; clear hr
  have hb0 : Below w.heap.size w (w.alloc (.cells #[] 27)) := (Below.refl _ _).alloc (Nat.le_refl _) _
  have hO0 : OwnRows (w.alloc (.cells #[] 27)) w.heap.size w.heap.size 0 [] := OwnRows.empty (Nat.le_refl _)
  have hcall := spec_IsCartan gc oc _ cc c _ rfl (by omega) (fun j hj => by rw [Hcl.out j hj]; omega) (Hr.out.below hb0 hgc)
  rw [decide_eq_true hC] at hcall
  have Hcall := Lib.hid hcall
  have Hin := Lib.hid (fun W => spec_l1In 12 1 12 W)
  have Hfew := Lib.hid hP.few
  have HrlP := Lib.hid (posL_rl c)
  have hgo : upGo c 25 0 (upStart c.length c.length) = posL c := rfl
  have Hgo := Lib.hid hgo
  clear hcall hgo
  generalize posL c = L at *
  go_enter Tryz.func97, Tryz.ntmps97
  go_wp2_with fail
  refine Hcall.out.mono ?_
  rintro e w1 ⟨rfl, hs1⟩
  have hb1 := below_still hb0 hs1
  have hO1 := hO0.still hs1
  clear hs1 Hcall hb0 hO0
  go_wp2_with fail
  refine (Hin.out _).mono ?_
  rintro e w2 ⟨rfl, hs2⟩
  have hb2 := below_still hb1 hs2
  have hO2 := hO1.still hs2
  clear hs2 hb1 hO1
  go_wp2_with fail
  go_loopw [5, 6] (fun ov kv wr => ∃ (k gO cO : Nat) (rsO : List RowRef), k ≤ c.length ∧ kv = .int .i64 k ∧ ov = (Value.slice (some ⟨gO, 0, none⟩) k cO) ∧ Hid (rsO.length = k) ∧ Hid (contents rsO = upStart c.length k) ∧ OwnRows wr w.heap.size gO cO rsO ∧ Below w.heap.size w wr) (fun _ kv _ => c.length - (intOf kv).toNat)
  case atStart => exact ⟨0, _, 0, [], Nat.zero_le _, rfl, rfl, rfl, rfl, hO2, hb2⟩
  case round =>
    clear hO2 hb2
    obtain ⟨k, gO, cO, rsO, hk, rfl, rfl, hlO, hQ, hO, hb⟩ := hrel
    by_cases hlt : k < c.length
    · have hsl := simpL_length c.length k
      have hrl : ∀ r ∈ rsO, r.2.2.length = c.length := fun r hr => Rl.start c.length k _ (by rw [← hQ.out]; exact List.mem_map.2 ⟨r, hr, rfl⟩)
      have hnx : putR (contents rsO) (simpL c.length k) = upStart c.length (k + 1) := by rw [hQ.out]; rfl
      have Hnx := Lib.hid hnx
      have hcall := spec_SimpleRoot_any gc oc _ cc k c wr rfl hC hlt (Hr.out.below hb hgc)
      have Hcall := Lib.hid hcall
      have Hrl := Lib.hid hrl
      clear hcall hnx hrl hQ
      generalize simpL c.length k = x at *
      have Hsl := Lib.hid hsl; clear hsl
      go_wp2_with fail
      refine Hcall.out.mono ?_
      rintro e w4 ⟨g4, c4, rfl, ho4, hb4⟩
      clear Hcall
      have hB4 := hb.trans (hb4.mono hb.size)
      have hO4 := hO.below hb4
      rw [Hsl.out]
      have hput := spec_l7Put_any w.heap.size gO cO k g4 0 c.length c4 rsO x w4 hlO.out Hsl.out (by rw [hlO.out]; omega) (by rw [Hsl.out]; omega) (fun r hr => by rw [Hrl.out r hr, Hsl.out]) hO4 ho4.lt ho4.cells
      have Hput := Lib.hid hput
      clear hput hO hb hb4 ho4 hO4
      go_wp2_with fail
      refine Hput.out.mono ?_
      rintro e w5 ⟨g5, c5, rs5, rfl, hc5, hO5, -, hb5⟩
      have hB5 := hB4.trans (hb5.mono hB4.size)
      have hlp : (putR (contents rsO) x).length = k + 1 := by rw [putR_length, contents_length, hlO.out]
      rw [hlp]
      have hl5 : rs5.length = k + 1 := by rw [← hlp, ← hc5, contents_length]
      have Hl5 := Lib.hid hl5; have Hc5 := Lib.hid (hc5.trans Hnx.out)
      clear hlp hl5 hc5 Hput hb5 hB4
      go_wp2_with fail
      go_roundw
      case rel => exact ⟨k + 1, g5, c5, rs5, by omega, by go_num, rfl, Hl5.out, Hc5.out, hO5, hB5⟩
      case measure => simp [intOf]; omega
    · obtain rfl : k = c.length := by omega
      rw [← hQ.out] at Hgo
      have hrl0 : Hid (Rl c.length (contents rsO)) := Lib.hid (by rw [hQ.out]; exact Rl.start _ _)
      go_wp2_with fail
      go_loopw [5, 7] (fun ov kv wr => ∃ (k gO cO nQ : Nat) (rsO : List RowRef), kv = .int .i64 k ∧ ov = (Value.slice (some ⟨gO, 0, none⟩) nQ cO) ∧ Hid (rsO.length = nQ) ∧ k ≤ nQ ∧ nQ ≤ 24 ∧ Hid (Rl c.length (contents rsO)) ∧ Hid (upGo c (25 - k) k (contents rsO) = L) ∧ OwnRows wr w.heap.size gO cO rsO ∧ Below w.heap.size w wr) (fun _ kv _ => 25 - (intOf kv).toNat)
      case atStart => exact ⟨0, gO, cO, c.length, rsO, rfl, rfl, hlO, by omega, by omega, hrl0, Hgo.out, hO, hb⟩
      case round =>
        clear hO hb hQ hlO Hgo hk hlt hrl0
        obtain ⟨k, gO, cO, nQ, rsO, rfl, rfl, hlO, hk, hnQ, hrl, hgo, hO, hb⟩ := hrel
        by_cases hlt : k < nQ
        · have hkQ : k < (contents rsO).length := by rw [contents_length, hlO.out]; exact hlt
          have e25 : 25 - k = (24 - k) + 1 := by omega
          have hgo2 := hgo.out
          rw [e25, upGo_next hkQ] at hgo2
          generalize hQ0 : contents rsO = Q at *
          have hfull : (upRow c Q k c.length).length ≤ 24 := by
            have h1 := upGo_len (c := c) (24 - k) (k + 1) (upRow c Q k c.length)
            rw [hgo2] at h1
            exact Nat.le_trans h1 Hfew.out
          have Hgo2 := Lib.hid hgo2; have Hfull := Lib.hid hfull; have HQ0 := Lib.hid hQ0; have HkQ := Lib.hid hkQ
          clear hgo2 hfull e25 hgo hQ0 hkQ
          go_wp2_with fail
          go_loopw [5, 8] (fun ov iv wi => ∃ (i gO cO nQ : Nat) (rsO : List RowRef), i ≤ c.length ∧ iv = .int .i64 i ∧ ov = (Value.slice (some ⟨gO, 0, none⟩) nQ cO) ∧ Hid (rsO.length = nQ) ∧ k < nQ ∧ nQ ≤ 24 ∧ Hid (contents rsO = upRow c Q k i) ∧ OwnRows wi w.heap.size gO cO rsO ∧ Below w.heap.size w wi) (fun _ iv _ => c.length - (intOf iv).toNat)
          case atStart => exact ⟨0, gO, cO, nQ, rsO, Nat.zero_le _, rfl, rfl, hlO, hlt, hnQ, HQ0.out, hO, hb⟩
          case round =>
            clear hO hb hlO hk hnQ hlt HQ0
            obtain ⟨i, gO, cO, nQ, rsO, hi, rfl, rfl, hlO, hk, hnQ, hQ, hO, hb⟩ := hrel
            by_cases hil : i < c.length
            · have hkO : k < rsO.length := by rw [hlO.out]; exact hk
              have hrQ : Rl c.length (contents rsO) := by rw [hQ.out]; exact hrl.out.row HkQ.out i
              have hstep : upRow c Q k (i + 1) = upStep c (contents rsO) k i := by simp only [upRow]; rw [hQ.out]
              have hmono := upRow_mono (c := c) (Q := Q) (k := k) (i := i + 1) c.length (by omega)
              have hx0 : (contents rsO).getD k [] = rsO[k].2.2 := by simp [contents, List.getD, hkO]
              have hxl : rsO[k].2.2.length = c.length := hrQ _ (List.mem_map.2 ⟨rsO[k], List.getElem_mem hkO, rfl⟩)
              have HOf : ∀ W, OwnRows W w.heap.size gO cO rsO → W.cell? ⟨gO, k, none⟩ = some (rowVal rsO[k]) ∧ Own W w.heap.size rsO[k].1 rsO[k].2.1 rsO[k].2.2 := fun W h => ⟨by rw [h.1.cell k (by simpa using hkO)]; simp, h.2.1 _ (List.getElem_mem hkO)⟩
              generalize rsO[k] = ro at *
              obtain ⟨bo, co, x⟩ := ro
              have HO : Hid (∀ W, OwnRows W w.heap.size gO cO rsO → W.cell? ⟨gO, k, none⟩ = some (Value.slice (some ⟨bo, 0, none⟩) x.length co) ∧ Own W w.heap.size bo co x) := HOf
              have hx0' : (contents rsO).getD k [] = x := hx0
              have hxl' : x.length = c.length := hxl
              clear hx0 hxl HOf
              have hml := mirL_length c i x
              have hnew := fun (r : List Int) (hr : mirL c i x = r) => upStep_put (c := c) (Q := contents rsO) (k := k) (i := i) hx0' hr
              have hold := fun (r : List Int) (hr : mirL c i x = r) => upStep_keep (c := c) (Q := contents rsO) (k := k) (i := i) hx0' hr
              have hcall := fun W (hW : Below w.heap.size w W) (hbo : bo < W.heap.size) (hx : Cells W bo 0 x) => spec_l7Reflect_any gc oc c.length cc i bo 0 x.length co c x W rfl rfl hil (by rw [hxl']; exact hil) (by rw [Hcl.out i hil, hxl']; exact Nat.le_refl _) (by rw [Hcl.out i hil]; omega) (Nat.lt_of_lt_of_le hgc hW.size) hbo (Hr.out.below hW hgc) hx
              obtain ⟨hqo, hox⟩ := HO.out wr hO
              have hcall1 := hcall wr hb hox.lt hox.cells
              generalize hr : mirL c i x = r at *
              have Hc1 := Lib.hid hcall1
              have hnew' := hnew r rfl
              have hold' := hold r rfl
              rw [← hstep] at hnew' hold'
              have Hnew := Lib.hid hnew'; have Hold := Lib.hid hold'; have Hmono := Lib.hid hmono
              have Hxl := Lib.hid hxl'; have Hml := Lib.hid hml; have HrQ := Lib.hid hrQ
              clear hnew hold hnew' hold' hcall hcall1 hstep hmono hx0' hxl' hml hox hr hrQ
              go_wp2_with fail
              refine Hc1.out.mono ?_
              rintro e w4 ⟨g4, c4, rfl, ho4, hb4⟩
              have hB4 := hb.trans (hb4.mono hb.size)
              have hO4 := hO.below hb4
              rw [Hml.out, Hxl.out]
              have Hml2 : Hid (r.length = c.length) := Lib.hid (Hml.out.trans Hxl.out)
              clear Hc1 hO hb hqo
              obtain ⟨hqo, hox⟩ := HO.out w4 hO4
              have Hs := Lib.hid (fun q => spec_RootSign_any g4 0 c.length c4 r (w4.drewN q) Hml2.out (by rw [Hml2.out]; omega) (ho4.cells.still ⟨q, rfl⟩))
              have Hh := Lib.hid (fun q => spec_HeightOf_any g4 0 c.length c4 r (w4.drewN q) Hml2.out (by rw [Hml2.out]; omega) (ho4.cells.still ⟨q, rfl⟩))
              have Hx := Lib.hid (fun q => spec_HeightOf_any bo 0 x.length co x (w4.drewN q) rfl (by rw [Hxl.out]; omega) (hox.cells.still ⟨q, rfl⟩))
              have Hi := Lib.hid (fun q => spec_l7In_any gO 0 nQ cO g4 0 c.length c4 (contents rsO) r (w4.drewN q) (by rw [contents_length]; exact hlO.out) Hml2.out (by rw [contents_length, hlO.out]; omega) (fun j hj => by rw [HrQ.out _ (by simp [List.getD, hj])]; omega) (hO4.rows2.still ⟨q, rfl⟩) (ho4.cells.still ⟨q, rfl⟩))
              clear hox
              have hsp := sign_pos r
              by_cases h1 : posB r = true
              · have d1 : decide (0 < signL r) = true := by rw [hsp]; exact h1
                by_cases h2 : heightL r ≤ 12
                · have d2 : decide (heightL r ≤ 12) = true := decide_eq_true h2
                  by_cases h3 : r ∈ contents rsO
                  · rw [decide_eq_true h3] at Hi
                    have Hk1 := Lib.hid (Hold.out (fun h => h.2.2.2 h3)).symm
                    generalize signL r = sg at *
                    generalize heightL r = hr at *
                    generalize heightL x = hx at *
                    clear hsp
                    clear h1 h2 h3
                    clear Hold Hnew
                    go_wp2_with fail
                    go_quiet (first | (go_at_call 145; first | with_reducible exact Calls.quiet_of (Hs.out _) | with_reducible exact Reads.quiet4 (Hs.out _)) | (go_at_call_of 146 (Value.slice (some ⟨g4, 0, none⟩) c.length c4); first | with_reducible exact Calls.quiet_of (Hh.out _) | with_reducible exact Reads.quiet4 (Hh.out _)) | (go_at_call 121; first | with_reducible exact Calls.quiet_of (Hi.out _) | with_reducible exact Reads.quiet4 (Hi.out _)) | (go_at_call_of 146 (Value.slice (some ⟨bo, 0, none⟩) x.length co); first | with_reducible exact Calls.quiet_of (Hx.out _) | with_reducible exact Reads.quiet4 (Hx.out _)))
                    go_wp2_with fail
                    go_roundw
                    case rel => exact ⟨i + 1, gO, cO, nQ, rsO, by omega, by go_num, rfl, hlO, hk, hnQ, Hk1.out, hO4.still ⟨_, rfl⟩, below_still hB4 ⟨_, rfl⟩⟩
                    case measure => simp [intOf]; omega
                  · rw [decide_eq_false h3] at Hi
                    by_cases h4 : heightL x < heightL r
                    · have d4 : decide (heightL x < heightL r) = true := decide_eq_true h4
                      have hk1 := (Hnew.out h1 h2 h4 h3).symm
                      have hlp : (putR (contents rsO) r).length = nQ + 1 := by rw [putR_length, contents_length, hlO.out]
                      have hn24 : nQ + 1 ≤ 24 := by rw [← hlp, hk1]; exact Nat.le_trans Hmono.out Hfull.out
                      have hput := fun q => spec_l7Put_any w.heap.size gO cO nQ g4 0 c.length c4 rsO r (w4.drewN q) hlO.out Hml2.out (by rw [hlO.out]; omega) (by rw [Hml2.out]; omega) (fun y hy => by rw [HrQ.out _ (List.mem_map.2 ⟨y, hy, rfl⟩), Hml2.out]) (hO4.still ⟨q, rfl⟩) ho4.lt (ho4.cells.still ⟨q, rfl⟩)
                      have Hput := Lib.hid hput; have Hk1 := Lib.hid hk1; have Hlp := Lib.hid hlp
                      generalize signL r = sg at *
                      generalize heightL r = hr at *
                      generalize heightL x = hx at *
                      clear hsp
                      clear h1 h2 h3 h4 hput hk1 hlp Hold Hnew
                      go_wp2_with fail
                      go_quiet (first | (go_at_call 145; first | with_reducible exact Calls.quiet_of (Hs.out _) | with_reducible exact Reads.quiet4 (Hs.out _)) | (go_at_call_of 146 (Value.slice (some ⟨g4, 0, none⟩) c.length c4); first | with_reducible exact Calls.quiet_of (Hh.out _) | with_reducible exact Reads.quiet4 (Hh.out _)) | (go_at_call 121; first | with_reducible exact Calls.quiet_of (Hi.out _) | with_reducible exact Reads.quiet4 (Hi.out _)) | (go_at_call_of 146 (Value.slice (some ⟨bo, 0, none⟩) x.length co); first | with_reducible exact Calls.quiet_of (Hx.out _) | with_reducible exact Reads.quiet4 (Hx.out _)))
                      go_wp2_with fail
                      refine (Hput.out _).mono ?_
                      rintro e w5 ⟨g5, c5, rs5, rfl, hc5, hO5, -, hb5⟩
                      have hB5 : Below w.heap.size w w5 := Below.trans (below_drewN hB4 _) (hb5.mono hB4.size)
                      rw [Hlp.out]
                      have hl5 : rs5.length = nQ + 1 := by rw [← Hlp.out, ← hc5, contents_length]
                      have Hl5 := Lib.hid hl5; have Hc5 := Lib.hid (hc5.trans Hk1.out)
                      clear hl5 hc5 Hput hb5
                      go_wp2_with fail
                      go_roundw
                      case rel => exact ⟨i + 1, g5, c5, nQ + 1, rs5, by omega, by go_num, rfl, Hl5.out, by omega, hn24, Hc5.out, hO5, hB5⟩
                      case measure => simp [intOf]; omega
                    · have d4 : decide (heightL x < heightL r) = false := decide_eq_false h4
                      have Hk1 := Lib.hid (Hold.out (fun h => h4 h.2.2.1)).symm
                      generalize signL r = sg at *
                      generalize heightL r = hr at *
                      generalize heightL x = hx at *
                      clear hsp
                      clear h1 h2 h3 h4
                      clear Hold Hnew
                      go_wp2_with fail
                      go_quiet (first | (go_at_call 145; first | with_reducible exact Calls.quiet_of (Hs.out _) | with_reducible exact Reads.quiet4 (Hs.out _)) | (go_at_call_of 146 (Value.slice (some ⟨g4, 0, none⟩) c.length c4); first | with_reducible exact Calls.quiet_of (Hh.out _) | with_reducible exact Reads.quiet4 (Hh.out _)) | (go_at_call 121; first | with_reducible exact Calls.quiet_of (Hi.out _) | with_reducible exact Reads.quiet4 (Hi.out _)) | (go_at_call_of 146 (Value.slice (some ⟨bo, 0, none⟩) x.length co); first | with_reducible exact Calls.quiet_of (Hx.out _) | with_reducible exact Reads.quiet4 (Hx.out _)))
                      go_wp2_with fail
                      go_roundw
                      case rel => exact ⟨i + 1, gO, cO, nQ, rsO, by omega, by go_num, rfl, hlO, hk, hnQ, Hk1.out, hO4.still ⟨_, rfl⟩, below_still hB4 ⟨_, rfl⟩⟩
                      case measure => simp [intOf]; omega
                · have d2 : decide (heightL r ≤ 12) = false := decide_eq_false h2
                  have Hk1 := Lib.hid (Hold.out (fun h => h2 h.2.1)).symm
                  generalize signL r = sg at *
                  generalize heightL r = hr at *
                  generalize heightL x = hx at *
                  clear hsp
                  clear h1 h2
                  clear Hold Hnew
                  go_wp2_with fail
                  go_quiet (first | (go_at_call 145; first | with_reducible exact Calls.quiet_of (Hs.out _) | with_reducible exact Reads.quiet4 (Hs.out _)) | (go_at_call_of 146 (Value.slice (some ⟨g4, 0, none⟩) c.length c4); first | with_reducible exact Calls.quiet_of (Hh.out _) | with_reducible exact Reads.quiet4 (Hh.out _)) | (go_at_call 121; first | with_reducible exact Calls.quiet_of (Hi.out _) | with_reducible exact Reads.quiet4 (Hi.out _)) | (go_at_call_of 146 (Value.slice (some ⟨bo, 0, none⟩) x.length co); first | with_reducible exact Calls.quiet_of (Hx.out _) | with_reducible exact Reads.quiet4 (Hx.out _)))
                  go_wp2_with fail
                  go_roundw
                  case rel => exact ⟨i + 1, gO, cO, nQ, rsO, by omega, by go_num, rfl, hlO, hk, hnQ, Hk1.out, hO4.still ⟨_, rfl⟩, below_still hB4 ⟨_, rfl⟩⟩
                  case measure => simp [intOf]; omega
              · have d1 : decide (0 < signL r) = false := by rw [hsp]; simpa using h1
                have Hk1 := Lib.hid (Hold.out (fun h => h1 h.1)).symm
                generalize signL r = sg at *
                generalize heightL r = hr at *
                generalize heightL x = hx at *
                clear hsp
                clear h1
                clear Hold Hnew
                go_wp2_with fail
                go_quiet (first | (go_at_call 145; first | with_reducible exact Calls.quiet_of (Hs.out _) | with_reducible exact Reads.quiet4 (Hs.out _)) | (go_at_call_of 146 (Value.slice (some ⟨g4, 0, none⟩) c.length c4); first | with_reducible exact Calls.quiet_of (Hh.out _) | with_reducible exact Reads.quiet4 (Hh.out _)) | (go_at_call 121; first | with_reducible exact Calls.quiet_of (Hi.out _) | with_reducible exact Reads.quiet4 (Hi.out _)) | (go_at_call_of 146 (Value.slice (some ⟨bo, 0, none⟩) x.length co); first | with_reducible exact Calls.quiet_of (Hx.out _) | with_reducible exact Reads.quiet4 (Hx.out _)))
                go_wp2_with fail
                go_roundw
                case rel => exact ⟨i + 1, gO, cO, nQ, rsO, by omega, by go_num, rfl, hlO, hk, hnQ, Hk1.out, hO4.still ⟨_, rfl⟩, below_still hB4 ⟨_, rfl⟩⟩
                case measure => simp [intOf]; omega
            · obtain rfl : i = c.length := by omega
              have hgo3 := Hgo2.out
              rw [← hQ.out] at hgo3
              have hr3 : Rl c.length (contents rsO) := by rw [hQ.out]; exact hrl.out.row HkQ.out _
              have e24 : 25 - (k + 1) = 24 - k := by omega
              have Hgo3 : Hid (upGo c (25 - (k + 1)) (k + 1) (contents rsO) = L) := Lib.hid (by rw [e24]; exact hgo3)
              have Hr3 := Lib.hid hr3
              clear hgo3 hr3 e24
              go_wp2_with fail
              go_roundw
              case rel => exact ⟨k + 1, gO, cO, nQ, rsO, by go_num, rfl, hlO, by omega, hnQ, Hr3.out, Hgo3.out, hO, hb⟩
              case measure => simp [intOf]; omega
        · obtain rfl : k = nQ := by omega
          have hend := hgo.out
          rw [upGo_done (by rw [contents_length, hlO.out]; exact Nat.le_refl _)] at hend
          have Hend := Lib.hid hend
          have HlL : Hid (L.length = k) := Lib.hid (by rw [← hend, contents_length, hlO.out])
          clear hend
          go_wp2_with fail
          go_ret
          exact ⟨gO, cO, rsO, congrArg (fun t => Ending.returned (.slice (some ⟨gO, 0, none⟩) t cO)) HlL.out.symm, Hend.out, hO, hb⟩

theorem spec_PositiveRoots_fin (gc oc n cc : Nat) (c : List (List Int)) (w : World) (hn : c.length = n) (hC : IsC c) (hP : PosOk c) (hgc : gc < w.heap.size) (hr : Rows2 w gc oc c) (hf : ∀ W, Below w.heap.size w W → Calls Tryz.prog 64 #[(Value.slice (some ⟨gc, oc, none⟩) n cc)] W (Gives W (.bool true))) :
    Calls Tryz.prog 41 #[(Value.slice (some ⟨gc, oc, none⟩) n cc)] w (GotRowsB w (posL c) true) := by
  have Hf := Lib.hid (hf w (Below.refl _ _))
  have Hr := Lib.hid (fun W (hW : Below w.heap.size w W) => spec_RootsUpTo_ok gc oc n cc c W hn hC hP (Nat.lt_of_lt_of_le hgc hW.size) (hr.below hW hgc))
  clear hr hf hn
  go_enter Tryz.func41, Tryz.ntmps41
  go_wp2_with fail
  refine Hf.out.mono ?_
  rintro e w1 ⟨rfl, hb1⟩
  go_wp2_with fail
  refine (Hr.out w1 hb1).mono ?_
  rintro e w2 ⟨g, cp, rs, rfl, hcr, ho, hb2⟩
  go_wp2_with fail
  go_ret2
  exact ⟨g, cp, rs, rfl, hcr, ho.mono hb1.size, hb1.trans (hb2.mono hb1.size)⟩
theorem spec_PositiveRoots_inf (gc oc n cc : Nat) (w : World) (hf : Calls Tryz.prog 64 #[(Value.slice (some ⟨gc, oc, none⟩) n cc)] w (Gives w (.bool false))) :
    Calls Tryz.prog 41 #[(Value.slice (some ⟨gc, oc, none⟩) n cc)] w (GotRowsB w [] false) := by
  have Hf := Lib.hid hf
  clear hf
  go_enter Tryz.func41, Tryz.ntmps41
  go_wp2_with fail
  refine Hf.out.mono ?_
  rintro e w1 ⟨rfl, hb1⟩
  go_wp2_with fail
  go_ret2
  exact ⟨_, 0, [], rfl, rfl, OwnRows.empty hb1.size, hb1.alloc hb1.size _⟩
end Go.Proofs.YtldcmhgpppeooaaGreatDoor
