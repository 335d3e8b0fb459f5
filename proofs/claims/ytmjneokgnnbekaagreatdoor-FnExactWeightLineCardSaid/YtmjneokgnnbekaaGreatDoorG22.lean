/- Orbits of weights, of both: contracts. -/
import Derived.Test.YtmjneokgnnbekaaGreatDoorG21
namespace Go.Proofs.YtmjneokgnnbekaaGreatDoor
set_option maxRecDepth 100000
open Go.RowKit Game
open Go.Sort (SWO)

theorem contents_getD' {rs : List RowRef} {k : Nat} (hk : k < rs.length) : (contents rs).getD k [] = rs[k].2.2 := by simp [contents, List.getD, hk]

set_option maxRecDepth 100000 in
set_option maxHeartbeats 8000000 in
theorem spec_OrbitOf_dom (gc oc n cc g o m cv : Nat) (c : List (List Int)) (v : List Int) (M : List (List Int)) (b : Bool) (w : World) (hn : c.length = n) (hm : v.length = m) (hD : DomW c v) (hM : OrbM c v M b) (hgc : gc < w.heap.size) (hg : g < w.heap.size) (hr : Rows2 w gc oc c) (hv : Cells w g o v) :
    Calls Tryz.prog 17 #[(Value.slice (some ⟨gc, oc, none⟩) n cc), (Value.slice (some ⟨g, o, none⟩) m cv)] w (GotRowsB w M b) := by
  have hcall := spec_DominantOf_top gc oc n cc g o m cv c v w hn hm hD hgc hg hr hv
  subst hn; subst hm
  have hn4 := hD.hC.2.1
  have hcl : ∀ j, j < c.length → (c.getD j []).length = c.length := fun j hj => hD.hC.2.2.1 j hj
  have Hcall := Lib.hid hcall
  clear hcall
  go_enter Tryz.func17, Tryz.ntmps17
  go_wp2_with fail
  refine Hcall.out.mono ?_
  rintro e w2 ⟨g1, c1, g2, c2, rfl, ho2, -, hb2⟩
  clear Hcall
  go_wp2_with fail
  have hg1 := ho2.base
  have hT := (topOk hD).1
  have hxlT : (topX c v).length = c.length := hT.end_.1
  have hO3 : OwnRows (w2.alloc (.cells #[(Value.slice (some ⟨g1, 0, none⟩) c.length c1)] 23)) w.heap.size w2.heap.size 1 [(g1, c1, topX c v)] := by
    have h2 := OwnV.new (w := w2) (B := w.heap.size) (E := 23) (Value.slice (some ⟨g1, 0, none⟩) c.length c1) rfl hb2.size
    exact ⟨by simpa [rowVal, hxlT] using h2, ⟨fun r hr => by rw [List.mem_singleton] at hr; subst hr; exact ho2.alloc _, by simp⟩⟩
  have hSt := Lib.hid (QSt.start hT.end_ true (fun _ => fun i hi => hT.dom i hi))
  clear hT hxlT
  have hb3 : Below w.heap.size w (w2.alloc (.cells #[(Value.slice (some ⟨g1, 0, none⟩) c.length c1)] 23)) := hb2.alloc hb2.size _
  go_loopw [9, 10] (fun qv kv wr => ∃ (k gQ cQ nQ : Nat) (rs : List RowRef), kv = .int .i64 k ∧ qv = (Value.slice (some ⟨gQ, 0, none⟩) nQ cQ) ∧ Hid (rs.length = nQ) ∧ k ≤ nQ ∧ nQ ≤ 200 ∧ Hid (QSt c v true (contents rs) k 0) ∧ OwnRows wr w.heap.size gQ cQ rs ∧ Below w.heap.size w wr) (fun _ kv _ => 200 - (intOf kv).toNat)
  case atStart =>
    exact ⟨0, w2.heap.size, 1, 1, [(g1, c1, topX c v)], rfl, rfl, rfl, by omega, by omega, hSt.out, hO3, hb3⟩
  case round =>
    clear hO3 hb3 ho2 hb2 hg1
    obtain ⟨k, gQ, cQ, nQ, rs, rfl, rfl, hrl, hk, hnQ, hst, hO, hb⟩ := hrel
    obtain ⟨wo, rfl⟩ : ∃ wo : World, wo = wr := ⟨_, rfl⟩
    by_cases hlt : k < nQ
    · go_wp2_with fail
      go_loopw [9, 11] (fun qv iv wi => ∃ (i gQ cQ nQ : Nat) (rs : List RowRef), i ≤ c.length ∧ iv = .int .i64 i ∧ qv = (Value.slice (some ⟨gQ, 0, none⟩) nQ cQ) ∧ Hid (rs.length = nQ) ∧ k < nQ ∧ nQ ≤ 200 ∧ Hid (QSt c v true (contents rs) k i) ∧ OwnRows wi w.heap.size gQ cQ rs ∧ Below w.heap.size w wi) (fun _ iv _ => c.length - (intOf iv).toNat)
      case atStart => exact ⟨0, gQ, cQ, nQ, rs, Nat.zero_le _, rfl, rfl, hrl, hlt, hnQ, hst, hO, hb⟩
      case round =>
        clear hO hb hst hrl hlt hnQ hk
        obtain ⟨i, gQ, cQ, nQ, rs, hi, rfl, rfl, hrl, hk, hnQ, hst, hO, hb⟩ := hrel
        by_cases hil : i < c.length
        · have hkr : k < rs.length := by rw [hrl.out]; exact hk
          have hrow := hst.out.row (by rw [contents_length]; exact hkr)
          have hcg := contents_getD' hkr
          have hq : wr.cell? ⟨gQ, k, none⟩ = some (rowVal rs[k]) := by
            rw [hO.1.cell k (by simpa using hkr)]; simp
          have hoi := hO.2.1 _ (List.getElem_mem hkr)
          have HADD := hst.out.add hD (by rw [contents_length]; exact hkr) hil
          have HBIG := hst.out.big' hD (by rw [contents_length]; exact hkr) hil
          have HSKIP := hst.out.skip (i := i)
          rw [hcg] at hrow HADD HBIG HSKIP
          have hR2 := hO.rows2
          have hrlen : ∀ j, j < (contents rs).length → ((contents rs).getD j []).length ≤ 1048576 := fun j hj => by
            have := (hst.out.orb ((contents rs).getD j []) (by simp [List.getD, hj])).1
            omega
          clear hcg
          generalize rs[k] = r at *
          obtain ⟨bi, ci, x⟩ := r
          have hq' : wr.cell? ⟨gQ, k, none⟩ = some (Value.slice (some ⟨bi, 0, none⟩) x.length ci) := hq
          have hxl : x.length = c.length := hrow.1
          have hoi' : Own wr w.heap.size bi ci x := hoi
          have hbl := hoi'.lt
          have Hxl := Lib.hid hxl
          have hix : i < x.length := by omega
          have hx4 : x.length ≤ 4 := by omega
          have hcall := spec_l6Reflect_any gc oc _ cc bi 0 _ ci i c x wr rfl rfl (by omega) hn4 hcl hix (Nat.lt_of_lt_of_le hgc hb.size) hbl (hr.below hb hgc) hoi'.cells
          have Hcall := Lib.hid hcall; have Hadd := Lib.hid HADD; have Hbig := Lib.hid HBIG; have Hskip := Lib.hid HSKIP; have Hrow := Lib.hid hrow
          have Hrlen := Lib.hid hrlen
          clear hcall HADD HBIG HSKIP hrow hq hoi hxl hrlen
          go_wp2_with fail
          refine Hcall.out.mono ?_
          rintro e w3 ⟨g3, c3, rfl, ho3, hb3⟩
          have hB3 := hb.trans (hb3.mono hb.size)
          have hO3 := hO.below hb3
          have hoi3 := hoi'.below hb3 hbl
          have hq3 : w3.cell? ⟨gQ, k, none⟩ = some (Value.slice (some ⟨bi, 0, none⟩) x.length ci) := (hb3.cell (p := ⟨gQ, k, none⟩) hO.lt).trans hq'
          have hxi := hoi3.cells i hix
          rw [Nat.zero_add] at hxi
          have ho3' := ho3.mono hb.size
          have hne3 : ∀ s ∈ rs, s.1 ≠ g3 := fun s hs e => by
            have h1 := (hO.2.1 s hs).lt
            have h2 := ho3.base
            omega
          rw [refl_length]
          have hcl3 := refl_length c i x
          generalize hy : refl c i x = y at *
          have Hy := Lib.hid hy
          clear hy
          obtain ⟨xi, hxi2⟩ : ∃ xi, xi = x.getD i 0 := ⟨_, rfl⟩
          rw [← hxi2] at hxi
          have Hxi := Lib.hid hxi2; have Hcl3 := Lib.hid hcl3
          have hcall7 := spec_l7In_any gQ 0 nQ cQ g3 0 x.length c3 (contents rs) y w3 (by rw [contents_length]; exact hrl.out) hcl3 (by rw [contents_length]; have := hrl.out; omega) Hrlen.out hO3.rows2 (by have := ho3.cells; exact this)
          clear hxi2 hcl3 hO hb hoi' hb3 hq' Hcall ho3 hR2
          by_cases hpos : 0 < xi
          · by_cases hin : y ∈ contents rs
            · rw [decide_eq_true hin] at hcall7
              have Hcall7 := Lib.hid hcall7
              have hsk := Hskip.out (fun _ => hin)
              have Hsk := Lib.hid hsk
              clear hcall7 hsk hin
              go_wp2_with fail
              refine Hcall7.out.mono ?_
              rintro e w4 ⟨rfl, hs4⟩
              have hB4 := below_still hB3 hs4
              have hO4 := hO3.still hs4
              clear hs4 hB3 hO3 Hcall7
              go_wp2_with fail
              go_roundw
              case rel => exact ⟨i + 1, gQ, cQ, nQ, rs, by omega, by go_num, rfl, hrl, hk, hnQ, Hsk.out, hO4, hB4⟩
              case measure => simp [intOf]; omega
            · rw [decide_eq_false hin] at hcall7
              have Hcall7 := Lib.hid hcall7
              have Hin := Lib.hid hin
              clear hcall7 hin
              go_wp2_with fail
              refine Hcall7.out.mono ?_
              rintro e w4 ⟨rfl, hs4⟩
              have hB4 := below_still hB3 hs4
              have hO4 := hO3.still hs4
              have ho4 := ho3'.still hs4
              clear hs4 hB3 hO3 Hcall7 ho3'
              by_cases h200 : 200 ≤ nQ
              · have hno := Hbig.out Hin.out (by rw [contents_length, hrl.out]; exact h200)
                have hMb : M = [] ∧ b = false := by
                  rcases hM with ⟨h1, h2, -⟩ | ⟨-, h1, h2⟩
                  · exact absurd ⟨M, h1, h2⟩ hno
                  · exact ⟨h1, h2⟩
                obtain ⟨rfl, rfl⟩ := hMb
                have h200I : (200 : Int) ≤ (nQ : Int) := by omega
                go_wp2_with fail
                go_ret2
                exact GotRowsB.mk' _ _ [] rfl rfl (OwnRows.empty hB4.size) (hB4.alloc hB4.size _)
              · have h200I : (nQ : Int) < (200 : Int) := by omega
                have had := Hadd.out Hin.out
                have Had := Lib.hid had
                clear had
                go_wp2_with (at_builtin; refine wpList_append_row rfl _ _ rfl w.heap.size gQ cQ nQ w4.heap.size rs (g3, c3, y) _ hrl.out (by unfold rowVal; rw [Hcl3.out]) rfl hO4 ho4 hne3 rfl rfl (by omega) ?_)
                intro g5 c5 w5 hO5 hg5 hor5
                have hB5 : Below w.heap.size w w5 := hB4.grown hg5 hB4.size (by intro j hj; cases hj; exact hO4.base)
                clear hO4 hB4 hg5 hor5 ho4
                go_wp2_with fail
                go_roundw
                case rel =>
                  refine ⟨i + 1, g5, c5, nQ + 1, rs ++ [(g3, c3, y)], by omega, by go_num, rfl, ?_, by omega, by omega, ?_, hO5, hB5⟩
                  · show _ = _
                    rw [List.length_append, hrl.out]; rfl
                  · show QSt _ _ _ _ _ _
                    rw [contents_append]; exact Had.out
                case measure => simp [intOf]; omega
          · have hsk := Hskip.out (fun h => absurd (h trivial) (by show ¬ 0 < x.getD i 0; rw [← Hxi.out]; exact hpos))
            have Hsk := Lib.hid hsk
            clear hsk hcall7
            go_wp2_with fail
            go_roundw
            case rel => exact ⟨i + 1, gQ, cQ, nQ, rs, by omega, by go_num, rfl, hrl, hk, hnQ, Hsk.out, hO3, hB3⟩
            case measure => simp [intOf]; omega
        · obtain rfl : i = c.length := by omega
          have hnx := hst.out.next (by rw [contents_length, hrl.out]; exact hk)
          have Hnx := Lib.hid hnx
          clear hnx
          go_wp2_with fail
          go_roundw
          case rel => exact ⟨k + 1, gQ, cQ, nQ, rs, by go_num, rfl, hrl, by omega, hnQ, Hnx.out, hO, hb⟩
          case measure => simp [intOf]; omega
    · obtain rfl : k = nQ := by omega
      have hall : ∀ x, x ∈ contents rs ↔ OrbP c v x := by
        refine QSt.all (down := true) ?_ hD
        rw [contents_length, hrl.out]; exact hst.out
      have horb := putsG_orb hall
      have hlen : (putsG (contents rs)).length ≤ 200 := by
        have := nodup_le horb.1.nodup hst.out.nodup (fun x hx => (hall x).2 ((horb.2 x).1 hx))
        rw [contents_length, hrl.out] at this
        omega
      have hMb : M = putsG (contents rs) ∧ b = true := by
        rcases hM with ⟨h1, h2, h3⟩ | ⟨h0, -, -⟩
        · exact ⟨h1.uniq horb, h3⟩
        · exact absurd ⟨_, horb, hlen⟩ h0
      obtain ⟨rfl, rfl⟩ := hMb
      have Hall := Lib.hid hall
      clear hall horb hM hlen
      have hBw := hb.size
      go_wp2_with fail
      go_loopw [13, 14] (fun ov kv wi => ∃ (t gP cP nP : Nat) (rp : List RowRef), t ≤ k ∧ kv = .int .i64 t ∧ ov = (Value.slice (some ⟨gP, 0, none⟩) nP cP) ∧ Hid (rp.length = nP) ∧ nP ≤ t ∧ Hid (contents rp = putsG ((contents rs).take t)) ∧ OwnRows wi wo.heap.size gP cP rp ∧ Below wo.heap.size wo wi) (fun _ kv _ => k - (intOf kv).toNat)
      case atStart => exact ⟨0, wo.heap.size, 0, 0, [], Nat.zero_le _, rfl, rfl, rfl, by omega, rfl, OwnRows.empty (Nat.le_refl _), (Below.refl _ _).alloc (Nat.le_refl _) _⟩
      case round =>
        obtain ⟨t, gP, cP, nP, rp, ht, rfl, rfl, hpl, hnP, hcP, hP, hbi⟩ := hrel
        by_cases htl : t < k
        · have hkr : t < rs.length := by rw [hrl.out]; exact htl
          have hcg := contents_getD' hkr
          have htk := putsG_take (L := contents rs) (k := t) (by rw [contents_length]; exact hkr)
          rw [hcg] at htk
          have hOi := hO.below hbi
          have hq : wr.cell? ⟨gQ, t, none⟩ = some (rowVal rs[t]) := by
            rw [hOi.1.cell t (by simpa using hkr)]; simp
          have hoi := hOi.2.1 _ (List.getElem_mem hkr)
          have hxl : rs[t].2.2.length = c.length := ((Hall.out _).1 (List.mem_map.2 ⟨rs[t], List.getElem_mem hkr, rfl⟩)).1
          have hsame : ∀ r ∈ rp, r.2.2.length = rs[t].2.2.length := by
            intro r hr'
            have h1 : r.2.2 ∈ contents rp := List.mem_map.2 ⟨r, hr', rfl⟩
            rw [hcP.out] at h1
            have h2 := ((putsG_aux _ [] List.Pairwise.nil).2 _).1 h1
            have h3 : r.2.2 ∈ contents rs := by
              rcases h2 with h | h
              · exact List.mem_of_mem_take h
              · simp at h
            rw [((Hall.out _).1 h3).1, hxl]
          clear hcg
          generalize rs[t] = r at *
          obtain ⟨bi, ci, x⟩ := r
          have hq' : wr.cell? ⟨gQ, t, none⟩ = some (Value.slice (some ⟨bi, 0, none⟩) x.length ci) := hq
          have hoi' : Own wr w.heap.size bi ci x := hoi
          have hxl' : x.length = c.length := hxl
          have htk' : putsG ((contents rs).take (t + 1)) = putG (putsG ((contents rs).take t)) x := htk
          have hcall := spec_l25Put_any wo.heap.size gP cP nP bi 0 x.length ci rp x wr hpl.out rfl (by have := hpl.out; omega) (by omega) hsame hP hoi'.lt hoi'.cells
          rw [hcP.out, ← htk'] at hcall
          have Hcall := Lib.hid hcall
          have hle : (putsG ((contents rs).take (t + 1))).length ≤ nP + 1 := by
            rw [htk']
            have := putG_length (putsG ((contents rs).take t)) x
            rw [← hcP.out, contents_length, hpl.out] at this
            rw [← hcP.out]; omega
          have Hle := Lib.hid hle
          clear hcall hq hoi hxl hxl' htk htk' hle hsame hOi hoi' hP
          go_wp2_with fail
          refine Hcall.out.mono ?_
          rintro e w3 ⟨g3, c3, rp3, rfl, hc3, hP3, -, hb3⟩
          obtain ⟨n3, hn3⟩ : ∃ n3, (putsG ((contents rs).take (t + 1))).length = n3 := ⟨_, rfl⟩
          have hl3 : rp3.length = n3 := by rw [← hn3, ← hc3, contents_length]
          rw [hn3] at Hle ⊢
          have hn3' := Hle.out
          have Hc3 := Lib.hid hc3; have Hl3 := Lib.hid hl3
          clear hn3 hc3 hl3 Hcall
          go_wp2_with fail
          go_roundw
          case rel => exact ⟨t + 1, g3, c3, n3, rp3, by omega, by go_num, rfl, Hl3.out, by omega, Hc3.out, hP3, hbi.trans (hb3.mono hbi.size)⟩
          case measure => simp [intOf]; omega
        · obtain rfl : t = k := by omega
          have he : (contents rs).take t = contents rs := List.take_of_length_le (by rw [contents_length, hrl.out]; exact Nat.le_refl _)
          rw [he] at hcP
          have HcP := Lib.hid hcP.out
          clear hcP he
          go_wp2_with fail
          go_ret2
          exact GotRowsB.mk' gP cP rp hpl.out HcP.out (hP.mono hBw) (hb.trans (hbi.mono hBw))

set_option maxHeartbeats 4000000 in
theorem spec_OrbitOf_none (gc oc n cc g o m cv : Nat) (c : List (List Int)) (v : List Int) (w : World) (hn : c.length = n) (hm : v.length = m) (hx : c.length ≤ 1048576) (hvx : v.length ≤ 1048576) (hrl : ∀ j, j < c.length → (c.getD j []).length ≤ 1048576)
    (hno : ¬ (wtOk c v ∧ finB c = true)) (hgc : gc < w.heap.size) (hr : Rows2 w gc oc c) (hv : Cells w g o v) :
    Calls Tryz.prog 17 #[(Value.slice (some ⟨gc, oc, none⟩) n cc), (Value.slice (some ⟨g, o, none⟩) m cv)] w (GotRowsB w [] false) := by
  have hcall := spec_DominantOf_none gc oc n cc g o m cv c v w hn hm hx hvx hrl hno hgc hr hv
  subst hn; subst hm
  have Hcall := Lib.hid hcall
  clear hcall hno
  go_enter Tryz.func17, Tryz.ntmps17
  go_wp2_with fail
  refine Hcall.out.mono ?_
  rintro e w2 ⟨g1, g2, rfl, hb2⟩
  clear Hcall
  go_wp2_with fail
  go_ret2
  exact GotRowsB.mk' _ _ [] rfl rfl (OwnRows.empty hb2.size) (hb2.alloc hb2.size _)

/-- greater ones first -/
def downCmp (a b : List Int) : Int := sliceCmp b a
theorem swo_down : SWO (ltOf downCmp) where
  irrefl x := by unfold ltOf downCmp; rw [sliceCmp_self]; rfl
  trans x y z h1 h2 := by unfold ltOf downCmp at *; simp at *; exact sliceCmp_trans _ _ _ h2 h1
  ntrans x y z h1 h2 := by
    unfold ltOf downCmp at *
    simp at *
    rcases Int.lt_trichotomy (sliceCmp z x) 0 with h | h | h
    · have a1 := sliceCmp_anti x y
      have a2 := sliceCmp_anti y z
      rcases Int.lt_trichotomy (sliceCmp y x) 0 with g | g | g
      · omega
      · have := sliceCmp_zero g; subst this; omega
      · rcases Int.lt_trichotomy (sliceCmp z y) 0 with k | k | k
        · omega
        · have := sliceCmp_zero k; subst this; omega
        · have := sliceCmp_trans x y z (by omega) (by omega)
          have a3 := sliceCmp_anti x z
          omega
    · omega
    · omega
set_option maxHeartbeats 1000000 in
theorem impl_compareWeights_any (g1 o1 n1 c1 g2 o2 n2 c2 : Nat) (xs ys : List Int) (w : World) (hn1 : xs.length = n1) (hn2 : ys.length = n2) (hy : ys.length ≤ 1099511627776)
    (hcx : Cells w g1 o1 xs) (hcy : Cells w g2 o2 ys) :
    Calls Tryz.prog 69 #[(Value.slice (some ⟨g1, o1, none⟩) n1 c1), (Value.slice (some ⟨g2, o2, none⟩) n2 c2)] w (Reads w (.int .i64 (downCmp xs ys))) := by
  subst hn1; subst hn2
  go_enter Tryz.func69, Tryz.ntmps69
  go_wp2_with fail
  refine (slices_Compare_any g2 o2 _ c2 g1 o1 _ c1 ys xs w rfl rfl hy hcy hcx).mono ?_
  rintro e w1 ⟨rfl, hs1⟩
  go_wp2_with fail
  go_ret
  exact ⟨rfl, hs1⟩
theorem cmp_down : CmpOk 69 downCmp := fun g1 o1 c1 g2 o2 c2 xs ys w _ hy h1 h2 =>
  (impl_compareWeights_any g1 o1 _ c1 g2 o2 _ c2 xs ys w rfl rfl (by omega) h1 h2).mono fun _ _ h => reads_grow h

theorem desc_of_sorted {L : List (List Int)} {n : Nat} (h : L.Pairwise fun a b => ¬ downCmp b a < 0) (hn : L.Nodup) (hl : ∀ x ∈ L, x.length = n) : Desc L := by
  refine List.Pairwise.imp_of_mem (fun {a b} ha hb hab => ?_) (h.and hn)
  have e := wordCmp_same (a := b) (b := a) (by rw [hl a ha, hl b hb])
  have h1 : ¬ sliceCmp a b < 0 := hab.1
  have h2 := sliceCmp_anti a b
  rw [e]
  rcases Int.lt_trichotomy (sliceCmp b a) 0 with g | g | g
  · exact g
  · exact absurd (sliceCmp_zero g).symm hab.2
  · omega
theorem SeenM.neV {w : World} {b n m g cap B : Nat} {E : TypeId} {ks : List (List Int)} {vs : List Value} (h : SeenM w b n m ks) (ho : OwnV w B E g cap vs) : b ≠ g := by
  rintro rfl
  obtain ⟨D, ⟨es, clock, hh, -⟩, -⟩ := h
  obtain ⟨cur, h2, -⟩ := ho.row
  rw [hh] at h2
  simp at h2
theorem wfV_small {v : List Int} (h : ∀ j, j < v.length → -1000 ≤ v.getD j 0 ∧ v.getD j 0 ≤ 1000) : WfV v := by
  intro j _
  have e : v.getD j 0 = wrap64 (v.getD j 0) := by
    have h2 : -1000 ≤ v.getD j 0 ∧ v.getD j 0 ≤ 1000 := by
      by_cases hj : j < v.length
      · exact h j hj
      · have : v.getD j 0 = 0 := by simp [List.getD, hj]
        omega
    exact (IntWalk.wrap64_in _ ⟨by omega, by omega⟩).symm
  rw [e]; exact wrap64_wf _
/-- 'seen[key] = true' in a literal -/
theorem wpList_seen_insert {w : World} {b n m : Nat} {ks : List (List Int)} {ops : Array Oper} {rest : List Oper} {o : Oper} {a : Act} {Q : Exit → Act → World → Prop}
    (hg : o.guard = none) (x y z : Operand) (hop : o.op = Op.insert 66 x y z) (v : List Int) (hv : v.length = m) (h4 : m ≤ 4) (hw : WfV v)
    (hown : SeenM w b n m ks) (hn : n < 1048576) (hx : a.eval x = .map (some b)) (hy : a.eval y = vecVal v) (hz : a.eval z = .bool true)
    (hK : ∀ w', SeenM w' b (n + 1) m (ks ++ [v]) → w.grownBy w' (some b) → wpList Tryz.prog ops Q rest (a.put o.dst undef) w') :
    wpList Tryz.prog ops Q (o :: rest) a w := by
  refine wpList_plain hg fun K' hK' => ?_
  obtain ⟨D, hD, hmap, hat⟩ := hown
  obtain ⟨w', hrun, hown', hgr⟩ := hD.update vecKeyed Tryz.underlying66 (by unfold maxLen; omega) (keyOf_vec hw) (plainElem_bool (H := Unit) Tryz.underlying4 true)
  unfold Oper.wp
  simp [execOp, hop, hx, hy, hz, hrun, Result.andThen]
  refine hK' _ _ (hK w' ⟨_, hown', ?_, fun u hu hwu => ?_⟩ hgr)
  · obtain ⟨es, rfl⟩ := hmap
    exact ⟨_, rfl⟩
  · by_cases e : u = v
    · subst e
      rw [Maps.atKey_put_same hmap (vecKeyed.key (keyOf_vec hw))]
      simp
    · have hne : keyL u ≠ keyL v := fun h => e (keyL_inj hwu hw (by omega) (by omega) h)
      rw [Maps.atKey_put_other hne, hat u hu hwu]
      simp [e]

set_option maxRecDepth 100000 in
set_option maxHeartbeats 8000000 in
theorem impl_orbit_dom (gc oc n cc g o m cv : Nat) (c : List (List Int)) (v : List Int) (M : List (List Int)) (b : Bool) (w : World) (hn : c.length = n) (hm : v.length = m) (hD : DomW c v) (hM : OrbM c v M b) (hgc : gc < w.heap.size) (hg : g < w.heap.size) (hr : Rows2 w gc oc c) (hv : Cells w g o v) :
    Calls Tryz.prog 51 #[(Value.slice (some ⟨gc, oc, none⟩) n cc), (Value.slice (some ⟨g, o, none⟩) m cv)] w (GotRowsB w M b) := by
  subst hn; subst hm
  have hn4 := hD.hC.2.1
  have hv4 : v.length ≤ 4 := by have := hD.len; omega
  have hcl : ∀ j, j < c.length → (c.getD j []).length = c.length := fun j hj => hD.hC.2.2.1 j hj
  have Hcl := Lib.hid hcl
  have hvw : WfV v := wfV_small hD.small
  have hmm := @run_makeMap Tryz.prog
  clear hcl
  go_enter Tryz.func51, Tryz.ntmps51
  go_wp2_with (at_builtin; refine wpList_clone rfl _ _ rfl g o _ cv v rfl hg hv rfl rfl (by omega) ?_)
  intro g1 c1 w1 ho1 hb1
  have hO2 : OwnRows ((w1.alloc (.cells #[(Value.slice (some ⟨g1, 0, none⟩) v.length c1)] 23)).alloc (.map #[] 0)) w.heap.size w1.heap.size 1 [(g1, c1, v)] := by
    have h2 := OwnV.new (w := w1) (B := w.heap.size) (E := 23) (Value.slice (some ⟨g1, 0, none⟩) v.length c1) rfl hb1.size
    have h3 : OwnRows (w1.alloc (.cells #[(Value.slice (some ⟨g1, 0, none⟩) v.length c1)] 23)) w.heap.size w1.heap.size 1 [(g1, c1, v)] :=
      ⟨by simpa [rowVal] using h2, ⟨fun r hr => by rw [List.mem_singleton] at hr; subst hr; exact ho1.alloc _, by simp⟩⟩
    exact h3.below ((Below.refl _ _).alloc (Nat.le_refl _) _)
  have hB2 : Below w.heap.size w ((w1.alloc (.cells #[(Value.slice (some ⟨g1, 0, none⟩) v.length c1)] 23)).alloc (.map #[] 0)) := (hb1.alloc hb1.size _).alloc (by simp; have := hb1.size; omega) _
  have hS2 : SeenM ((w1.alloc (.cells #[(Value.slice (some ⟨g1, 0, none⟩) v.length c1)] 23)).alloc (.map #[] 0)) (w1.heap.size + 1) 0 c.length [] := by
    have := SeenM.start (w1.alloc (.cells #[(Value.slice (some ⟨g1, 0, none⟩) v.length c1)] 23)) c.length
    simpa using this
  go_wp2_with fail
  refine (impl_vectorOf_any g o v.length cv v _ rfl hv4 (Nat.lt_of_lt_of_le hg hB2.size) (hv.below hB2 hg)).mono ?_
  rintro e w3 ⟨rfl, hb3⟩
  have hO3 := hO2.below hb3
  have hB3 := hB2.trans (hb3.mono hB2.size)
  have hS3 := hS2.below hb3 hS2.lt
  have hbM : w.heap.size ≤ w1.heap.size + 1 := by have := hb1.size; omega
  clear hO2 hB2 hS2 hb3 ho1 hb1 hmm
  generalize w1.heap.size + 1 = bM at *
  generalize w1.heap.size = gO0 at *
  have hvl := hD.len
  have Hvl := Lib.hid hvl
  clear hvl
  go_wp2_with (refine wpList_seen_insert (o := ⟨none, _, _, _, _, _⟩) rfl _ _ _ rfl v Hvl.out hn4 hvw hS3 (by omega) rfl rfl rfl ?_)
  intro w4 hS4 hg4
  have hO4 : OwnRows w4 w.heap.size gO0 1 [(g1, c1, v)] := ⟨hO3.1.grown hg4 (by intro e; exact hS3.neV hO3.1 (Option.some.inj e).symm), fun r hr => (hO3.2.1 r hr).grown hg4 (by intro e; exact hS3.neOwn (hO3.2.1 r hr) (Option.some.inj e).symm), hO3.2.2⟩
  have hB4 := hB3.grown hg4 hB3.size (by intro j hj; cases hj; exact hbM)
  clear hO3 hS3 hB3 hg4
  go_wp2_with fail
  go_loopw [6, 8] (fun ov kv wr => ∃ (k gO cO nO : Nat) (rs : List RowRef), kv = .int .i64 k ∧ ov = (Value.slice (some ⟨gO, 0, none⟩) nO cO) ∧ Hid (rs.length = nO) ∧ k ≤ nO ∧ nO ≤ 200 ∧ Hid (QSt c v false (contents rs) k 0) ∧ OwnRows wr w.heap.size gO cO rs ∧ (∃ nM, nM ≤ nO ∧ SeenM wr bM nM c.length (contents rs)) ∧ Below w.heap.size w wr) (fun _ kv _ => 200 - (intOf kv).toNat)
  case atStart =>
    exact ⟨0, gO0, 1, 1, [(g1, c1, v)], rfl, rfl, rfl, by omega, by omega, QSt.start (OrbP.self hD.len) false (by simp), hO4, ⟨1, by omega, hS4⟩, hB4⟩
  case round =>
    clear hO4 hS4 hB4
    obtain ⟨k, gO, cO, nO, rs, rfl, rfl, hrl, hk, hnO, hst, hO, ⟨nM, hnM, hS⟩, hb⟩ := hrel
    obtain ⟨wo, rfl⟩ : ∃ wo : World, wo = wr := ⟨_, rfl⟩
    by_cases hlt : k < nO
    · go_wp2_with fail
      go_loopw [6, 28] (fun ov iv wj => ∃ (i gO cO nO : Nat) (rs : List RowRef), i ≤ c.length ∧ iv = .int .i64 i ∧ ov = (Value.slice (some ⟨gO, 0, none⟩) nO cO) ∧ Hid (rs.length = nO) ∧ k < nO ∧ nO ≤ 200 + i ∧ Hid (QSt c v false (contents rs) k i) ∧ OwnRows wj w.heap.size gO cO rs ∧ (∃ nM, nM ≤ nO ∧ SeenM wj bM nM c.length (contents rs)) ∧ Below w.heap.size w wj) (fun _ iv _ => c.length - (intOf iv).toNat)
      case atStart => exact ⟨0, gO, cO, nO, rs, Nat.zero_le _, rfl, rfl, hrl, hlt, by omega, hst, hO, ⟨nM, hnM, hS⟩, hb⟩
      case round =>
        clear hO hb hst hrl hlt hnO hk hS hnM
        obtain ⟨i, gO, cO, nO, rs, hi, rfl, rfl, hrl, hk, hnO, hst, hO, ⟨nM, hnM, hS⟩, hb⟩ := hrel
        by_cases hil : i < c.length
        · have hkr : k < rs.length := by rw [hrl.out]; exact hk
          have hrow := hst.out.row (by rw [contents_length]; exact hkr)
          have hcg := contents_getD' hkr
          have hq : wr.cell? ⟨gO, k, none⟩ = some (rowVal rs[k]) := by
            rw [hO.1.cell k (by simpa using hkr)]; simp
          have hoi := hO.2.1 _ (List.getElem_mem hkr)
          have HADD := hst.out.add hD (by rw [contents_length]; exact hkr) hil
          have HSKIP := hst.out.skip (i := i)
          rw [hcg] at hrow HADD HSKIP
          clear hcg
          generalize rs[k] = r at *
          obtain ⟨bi, ci, x⟩ := r
          have hq' : wr.cell? ⟨gO, k, none⟩ = some (Value.slice (some ⟨bi, 0, none⟩) x.length ci) := hq
          have hxl : x.length = c.length := hrow.1
          have hoi' : Own wr w.heap.size bi ci x := hoi
          have hbl := hoi'.lt
          have Hxl := Lib.hid hxl
          have hx4 : x.length ≤ 4 := by omega
          have Hadd := Lib.hid HADD; have Hskip := Lib.hid HSKIP; have Hrow := Lib.hid hrow
          have hgOl := hO.lt
          clear HADD HSKIP hrow hq hoi hxl
          have hq0 : ∀ o1, (wr.alloc o1).cell? ⟨gO, k, none⟩ = some (Value.slice (some ⟨bi, 0, none⟩) x.length ci) := fun o1 => (((Below.refl wr.heap.size wr).alloc (Nat.le_refl _) o1).cell (p := ⟨gO, k, none⟩) hgOl).trans hq'
          have hcx0 : ∀ o1, Cells (wr.alloc o1) bi 0 x := fun o1 => hoi'.cells.below ((Below.refl _ _).alloc (Nat.le_refl _) _) hbl
          go_wp2_with (at_builtin; refine wpList_clone rfl _ _ rfl bi 0 _ ci x rfl hbl hoi'.cells rfl rfl (by omega) ?_)
          intro g3 c3 w3 ho3 hb3
          have hB3 := hb.trans (hb3.mono hb.size)
          have hO3 := hO.below hb3
          have hS3 := hS.below hb3 hS.lt
          have hg3 : wr.heap.size ≤ g3 := ho3.base
          have hg3w : w.heap.size ≤ g3 := Nat.le_trans hb.size hg3
          have hrlt : ∀ r ∈ rs, r.1 < g3 := fun r hr' => Nat.lt_of_lt_of_le (hO.2.1 r hr').lt hg3
          have hSl := hS.lt
          have hcall := impl_reflected_any w gc oc c.length cc g3 c3 i x.length c x w3 rfl rfl Hxl.out hn4 Hcl.out hil hgc hr hB3 (ho3.mono hb.size)
          have Hcall := Lib.hid hcall
          clear hcall hO hS hb hb3 ho3 hq' hoi' hq0 hcx0
          go_wp2_with fail
          refine Hcall.out.mono ?_
          rintro e w5 ⟨rfl, ho5, hg5⟩
          have hO5 : OwnRows w5 w.heap.size gO cO rs := ⟨hO3.1.grown hg5 (by intro e; have := Option.some.inj e; omega), fun r hr' => (hO3.2.1 r hr').grown hg5 (by intro e; have h1 := Option.some.inj e; have h2 := hrlt r hr'; omega), hO3.2.2⟩
          have hS5 := hS3.grown hg5 (by intro e; have := Option.some.inj e; omega)
          have hB5 : Below w.heap.size w w5 := hB3.grown hg5 hB3.size (by intro j hj; cases hj; exact hg3w)
          clear hO3 hS3 hB3 hg5 Hcall
          have hyl : (refl c i x).length = x.length := refl_length c i x
          have hyw := wfV_refl c i x
          generalize refl c i x = y at *
          have Hyl := Lib.hid hyl; have Hyw := Lib.hid hyw
          clear hyl hyw
          obtain ⟨y0, j0⟩ : ∃ z, z = y.getD 0 0 := ⟨_, rfl⟩
          obtain ⟨y1, j1⟩ : ∃ z, z = y.getD 1 0 := ⟨_, rfl⟩
          obtain ⟨y2, j2⟩ : ∃ z, z = y.getD 2 0 := ⟨_, rfl⟩
          obtain ⟨y3, j3⟩ : ∃ z, z = y.getD 3 0 := ⟨_, rfl⟩
          have hvy : vecVal y = .agg #[.int .i64 y0, .int .i64 y1, .int .i64 y2, .int .i64 y3] := by unfold vecVal; rw [j0, j1, j2, j3]
          have hcall := impl_vectorOf_any g3 0 x.length c3 y w5 Hyl.out (by rw [Hyl.out]; exact hx4) ho5.lt ho5.cells
          rw [hvy] at hcall
          have Hcall := Lib.hid hcall; have Hvy := Lib.hid hvy
          clear j0 j1 j2 j3 hcall hvy
          go_wp2_with fail
          refine Hcall.out.mono ?_
          rintro e w6 ⟨rfl, hb6⟩
          have hO6 := hO5.below hb6
          have hS6 := hS5.below hb6 hS5.lt
          have hB6 := hB5.trans (hb6.mono hB5.size)
          have ho6 := ho5.below hb6 ho5.lt
          clear hO5 hS5 hB5 hb6 ho5 Hcall
          have hS7 : SeenM (w6.alloc (.cells #[.int .i64 y0, .int .i64 y1, .int .i64 y2, .int .i64 y3] 64)) bM nM c.length (contents rs) := hS6.grown (World.grownBy_alloc _ _ none) (by simp)
          have hO7 : OwnRows (w6.alloc (.cells #[.int .i64 y0, .int .i64 y1, .int .i64 y2, .int .i64 y3] 64)) w.heap.size gO cO rs := hO6.below ((Below.refl _ _).alloc (Nat.le_refl _) _)
          have ho7 : Own (w6.alloc (.cells #[.int .i64 y0, .int .i64 y1, .int .i64 y2, .int .i64 y3] 64)) w.heap.size g3 c3 y := ho6.alloc _
          have hB7 : Below w.heap.size w (w6.alloc (.cells #[.int .i64 y0, .int .i64 y1, .int .i64 y2, .int .i64 y3] 64)) := hB6.alloc hB6.size _
          have hk7 : Hid ((w6.alloc (.cells #[.int .i64 y0, .int .i64 y1, .int .i64 y2, .int .i64 y3] 64)).heap[w6.heap.size]? = some (.cells #[.int .i64 y0, .int .i64 y1, .int .i64 y2, .int .i64 y3] 64 (0, 0))) := heap_alloc_new _ _
          have hylc : y.length = c.length := by rw [Hyl.out, Hxl.out]
          have Hylc := Lib.hid hylc
          clear hylc hS6 hO6 ho6 hB6
          by_cases hmem : y ∈ contents rs
          · have hsk := Hskip.out (fun _ => hmem)
            have hdm : decide (y ∈ contents rs) = true := decide_eq_true hmem
            have Hsk := Lib.hid hsk; have Hdm := Lib.hid hdm
            clear hsk hdm hmem hk7
            go_wp2_with (at_lookup; refine wpList_seen_lookup rfl _ _ rfl bM nM c.length (contents rs) y Hylc.out Hyw.out hS7 rfl (by rw [Hvy.out]; rfl) true Hdm.out ?_)
            go_roundw
            case rel => exact ⟨i + 1, gO, cO, nO, rs, by omega, by go_num, rfl, hrl, hk, by omega, Hsk.out, hO7, ⟨nM, hnM, hS7⟩, hB7⟩
            case measure => simp [intOf]; omega
          · have had := Hadd.out hmem
            have hdm : decide (y ∈ contents rs) = false := decide_eq_false hmem
            have Had := Lib.hid had; have Hdm := Lib.hid hdm
            clear had hdm hmem
            go_wp2_with (first
              | (at_lookup; refine wpList_seen_lookup rfl _ _ rfl bM nM c.length (contents rs) y Hylc.out Hyw.out hS7 rfl (by rw [Hvy.out]; rfl) false Hdm.out ?_)
              | (at_mapUpdate; refine wpList_seen_put rfl _ _ _ rfl bM nM c.length (contents rs) y Hylc.out hn4 Hyw.out hS7 (by omega) rfl (by rw [Hvy.out]; rfl) rfl ?_))
            intro w8 hS8 hg8
            have hO8 : OwnRows w8 w.heap.size gO cO rs := ⟨hO7.1.grown hg8 (by intro e; exact hS7.neV hO7.1 (Option.some.inj e).symm), fun r hr' => (hO7.2.1 r hr').grown hg8 (by intro e; exact hS7.neOwn (hO7.2.1 r hr') (Option.some.inj e).symm), hO7.2.2⟩
            have ho8 : Own w8 w.heap.size g3 c3 y := ho7.grown hg8 (by intro e; exact hS7.neOwn ho7 (Option.some.inj e).symm)
            have hB8 : Below w.heap.size w w8 := hB7.grown hg8 hB7.size (by intro j hj; cases hj; exact hbM)
            have hne8 : ∀ s ∈ rs, s.1 ≠ g3 := fun s hs e => by have := hrlt s hs; omega
            clear hS7 hO7 ho7 hB7 hg8 hk7
            go_wp2_with (at_builtin; refine wpList_append_row rfl _ _ rfl w.heap.size gO cO nO w8.heap.size rs (g3, c3, y) _ hrl.out (by unfold rowVal; rw [Hyl.out]) rfl hO8 ho8 hne8 rfl rfl (by omega) ?_)
            intro g9 c9 w9 hO9 hg9 hor9
            have hS9 := hS8.grown hg9 (by intro e; exact hS8.neV hO8.1 (Option.some.inj e))
            have hB9 : Below w.heap.size w w9 := hB8.grown hg9 hB8.size (by intro j hj; cases hj; exact hO8.base)
            clear hO8 hS8 hB8 ho8 hg9 hor9
            go_wp2_with fail
            go_roundw
            case rel =>
              refine ⟨i + 1, g9, c9, nO + 1, rs ++ [(g3, c3, y)], by omega, by go_num, rfl, ?_, by omega, by omega, ?_, hO9, ⟨nM + 1, by omega, by rw [contents_append]; exact hS9⟩, hB9⟩
              · show _ = _
                rw [List.length_append, hrl.out]; rfl
              · show QSt _ _ _ _ _ _
                rw [contents_append]; exact Had.out
            case measure => simp [intOf]; omega
        · obtain rfl : i = c.length := by omega
          have hnx := hst.out.next (by rw [contents_length, hrl.out]; exact hk)
          by_cases hbig : 200 < nO
          · have hno := hnx.big (by rw [contents_length, hrl.out]; exact hbig)
            have hMb : M = [] ∧ b = false := by
              rcases hM with ⟨h1, h2, -⟩ | ⟨-, h1, h2⟩
              · exact absurd ⟨M, h1, h2⟩ hno
              · exact ⟨h1, h2⟩
            obtain ⟨rfl, rfl⟩ := hMb
            have hbI : (200 : Int) < (nO : Int) := by omega
            clear hnx hno
            go_wp2_with fail
            go_ret2
            exact GotRowsB.mk' _ _ [] rfl rfl (OwnRows.empty hb.size) (hb.alloc hb.size _)
          · have hbI : ¬ (200 : Int) < (nO : Int) := by omega
            have Hnx := Lib.hid hnx
            clear hnx
            go_wp2_with fail
            go_roundw
            case rel => exact ⟨k + 1, gO, cO, nO, rs, by go_num, rfl, hrl, by omega, by omega, Hnx.out, hO, ⟨nM, hnM, hS⟩, hb⟩
            case measure => simp [intOf]; omega
    · obtain rfl : k = nO := by omega
      have hall : ∀ x, x ∈ contents rs ↔ OrbP c v x := by
        refine QSt.all (down := false) ?_ hD
        rw [contents_length, hrl.out]; exact hst.out
      have hnd := hst.out.nodup
      have hrlen : ∀ r ∈ rs, r.2.2.length ≤ 1048576 := by
        intro r hr'
        have := ((hall r.2.2).1 (List.mem_map.2 ⟨r, hr', rfl⟩)).1
        omega
      have hcall := sort_rows 69 downCmp cmp_down swo_down (enters_of Tryz.func69 (by kernel_rfl) rfl) w.heap.size gO cO k rs wo hrl.out (by rw [hrl.out]; omega) hrlen hO
      have Hcall := Lib.hid hcall; have Hall := Lib.hid hall; have Hnd := Lib.hid hnd
      clear hcall hall hnd hrlen
      go_wp2_with fail
      refine Hcall.out.mono ?_
      rintro e w4 ⟨rfl, rs4, hperm, hsort, hO4, hg4⟩
      have hB4 : Below w.heap.size w w4 := hb.grown hg4 hb.size (by intro j hj; cases hj; exact hO.base)
      have hl4 : rs4.length = k := by rw [hperm.length_eq]; exact hrl.out
      have hpc : (contents rs4).Perm (contents rs) := hperm.map _
      have horb : IsOrb c v (contents rs4) := by
        have hm : ∀ x, x ∈ contents rs4 ↔ OrbP c v x := fun x => hpc.mem_iff.trans (Hall.out x)
        exact ⟨desc_of_sorted (n := c.length) (hsort.imp (by intro a b h; omega)) (hpc.nodup_iff.2 Hnd.out) (fun x hx => ((hm x).1 hx).1), hm⟩
      have hMb : M = contents rs4 ∧ b = true := by
        rcases hM with ⟨h1, h2, h3⟩ | ⟨h0, -, -⟩
        · exact ⟨h1.uniq horb, h3⟩
        · exact absurd ⟨_, horb, by rw [contents_length, hl4]; omega⟩ h0
      obtain ⟨rfl, rfl⟩ := hMb
      have Hl4 := Lib.hid hl4
      clear hl4 hpc horb hM hsort hperm hO hb hS Hcall hg4
      go_wp2_with fail
      go_ret2
      exact GotRowsB.mk' gO cO rs4 Hl4.out rfl hO4 hB4

set_option maxHeartbeats 4000000 in
theorem impl_OrbitOf_none (gc oc n cc g o m cv : Nat) (c : List (List Int)) (v : List Int) (w : World) (hn : c.length = n) (hm : v.length = m) (hx : c.length ≤ 1048576) (hvx : v.length ≤ 1048576) (hrl : ∀ j, j < c.length → (c.getD j []).length ≤ 1048576)
    (hno : ¬ (wtOk c v ∧ finB c = true)) (hgc : gc < w.heap.size) (hr : Rows2 w gc oc c) (hv : Cells w g o v) :
    Calls Tryz.prog 25 #[(Value.slice (some ⟨gc, oc, none⟩) n cc), (Value.slice (some ⟨g, o, none⟩) m cv)] w (GotRowsB w [] false) := by
  have hcall := impl_DominantOf_none gc oc n cc g o m cv c v w hn hm hx hvx hrl hno hgc hr hv
  subst hn; subst hm
  have Hcall := Lib.hid hcall
  clear hcall hno
  go_enter Tryz.func25, Tryz.ntmps25
  go_wp2_with fail
  refine Hcall.out.mono ?_
  rintro e w2 ⟨g1, g2, rfl, hb2⟩
  clear Hcall
  go_wp2_with fail
  go_ret2
  exact GotRowsB.mk' _ _ [] rfl rfl (OwnRows.empty hb2.size) (hb2.alloc hb2.size _)

set_option maxHeartbeats 4000000 in
theorem impl_OrbitOf_dom (gc oc n cc g o m cv : Nat) (c : List (List Int)) (v : List Int) (M : List (List Int)) (b : Bool) (w : World) (hn : c.length = n) (hm : v.length = m) (hD : DomW c v) (hM : OrbM c v M b) (hgc : gc < w.heap.size) (hg : g < w.heap.size) (hr : Rows2 w gc oc c) (hv : Cells w g o v) :
    Calls Tryz.prog 25 #[(Value.slice (some ⟨gc, oc, none⟩) n cc), (Value.slice (some ⟨g, o, none⟩) m cv)] w (GotRowsB w M b) := by
  have hcall := impl_DominantOf_top gc oc n cc g o m cv c v w hn hm hD hgc hg hr hv
  subst hn; subst hm
  have Hcall := Lib.hid hcall
  clear hcall
  go_enter Tryz.func25, Tryz.ntmps25
  go_wp2_with fail
  refine Hcall.out.mono ?_
  rintro e w2 ⟨g1, c1, g2, c2, rfl, -, -, hb2⟩
  clear Hcall
  have hcall := impl_orbit_dom gc oc _ cc g o _ cv c v M b w2 rfl rfl hD hM (Nat.lt_of_lt_of_le hgc hb2.size) (Nat.lt_of_lt_of_le hg hb2.size) (hr.below hb2 hgc) (hv.below hb2 hg)
  have Hcall := Lib.hid hcall
  clear hcall
  go_wp2_with fail
  refine Hcall.out.mono ?_
  rintro e w3 ⟨g3, c3, rs, rfl, hcr, hO3, hb3⟩
  clear Hcall
  go_wp2_with fail
  go_ret2
  exact ⟨g3, c3, rs, rfl, hcr, hO3.mono hb2.size, hb2.trans (hb3.mono hb2.size)⟩
end Go.Proofs.YtmjneokgnnbekaaGreatDoor
