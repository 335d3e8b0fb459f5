/- The orbit of a dominant weight by the reference: contracts. -/
import Derived.Test.YtjiljcekcpemmaaPut25
import Derived.Test.YtjiljcekcpemmaaGot
namespace Go.Proofs.Ytjiljcekcpemmaa
open Go.RowKit Game

/-- the answer to a dominant weight: itself, and no letters -/
def GotDom (w : World) (v : List Int) (e : Ending) (w' : World) : Prop :=
  ∃ g1 c1 g2 c2, e = .returned (.tuple #[(Value.slice (some ⟨g1, 0, none⟩) v.length c1), (Value.slice (some ⟨g2, 0, none⟩) 0 c2), .bool true]) ∧ Own w' w.heap.size g1 c1 v ∧ Below w.heap.size w w'
/-- .. and to what is no weight or in no finite type -/
def GotNone (w : World) (e : Ending) (w' : World) : Prop :=
  ∃ g1 g2, e = .returned (.tuple #[(Value.slice (some ⟨g1, 0, none⟩) 0 0), (Value.slice (some ⟨g2, 0, none⟩) 0 0), .bool false]) ∧ Below w.heap.size w w'
theorem Game.DomW.wt {c : List (List Int)} {v : List Int} (h : DomW c v) : wtOk c v := ⟨h.hC, h.len, h.small⟩
theorem Game.DomW.of {c : List (List Int)} {v : List Int} (h1 : wtOk c v) (h2 : finB c = true) (h3 : (firstNeg v).isNone = true) : DomW c v :=
  ⟨h1.1, h2, h1.2.1, h1.2.2, firstNeg_none (by simpa using h3)⟩

set_option maxHeartbeats 4000000 in
theorem spec_DominantOf_dom (gc oc n cc g o m cv : Nat) (c : List (List Int)) (v : List Int) (w : World) (hn : c.length = n) (hm : v.length = m) (hD : DomW c v) (hgc : gc < w.heap.size) (hg : g < w.heap.size) (hr : Rows2 w gc oc c) (hv : Cells w g o v) :
    Calls Try.prog 78 #[(Value.slice (some ⟨gc, oc, none⟩) n cc), (Value.slice (some ⟨g, o, none⟩) m cv)] w (GotDom w v) := by
  subst hn; subst hm
  have hn4 := hD.hC.2.1
  have hvn := hD.len
  have hrl : ∀ j, j < c.length → (c.getD j []).length ≤ 1048576 := fun j hj => by rw [hD.hC.2.2.1 j hj]; omega
  have hcall := spec_IsWeight_any gc oc _ cc g o _ cv c v w rfl rfl (by omega) (by omega) hrl hr hv
  rw [decide_eq_true hD.wt] at hcall
  have Hcall := Lib.hid hcall
  have hv4 : v.length ≤ 4 := by omega
  clear hcall hvn
  go_enter Try.func78, Try.ntmps78
  go_wp2_with fail
  refine Hcall.out.mono ?_
  rintro e w1 ⟨rfl, hs1⟩
  have hb1 := below_still (Below.refl w.heap.size w) hs1
  clear hs1 Hcall
  have hcall := spec_IsFinite_any gc oc _ cc c w1 rfl (by omega) hrl (Nat.lt_of_lt_of_le hgc hb1.size) (hr.below hb1 hgc)
  rw [hD.fin] at hcall
  have Hcall := Lib.hid hcall
  clear hcall
  go_wp2_with fail
  refine Hcall.out.mono ?_
  rintro e w2 ⟨rfl, hb2'⟩
  have hb2 := hb1.trans (hb2'.mono hb1.size)
  clear Hcall hb1 hb2'
  go_wp2_with (at_builtin; refine wpList_clone (w := w2) rfl _ _ rfl g o _ cv v rfl (Nat.lt_of_lt_of_le hg hb2.size) (hv.below hb2 hg) rfl rfl (by omega) ?_)
  intro g3 c3 w3 ho3 hb3'
  have hb3 := hb2.trans (hb3'.mono hb2.size)
  have ho3' : Own w3 w.heap.size g3 c3 v := ho3.mono hb2.size
  clear ho3 hb3' hb2
  go_wp2_with fail
  have hb4 : Below w.heap.size w (w3.alloc (.cells #[] 3)) := hb3.alloc hb3.size _
  have ho4 : Own (w3.alloc (.cells #[] 3)) w.heap.size g3 c3 v := ho3'.alloc _
  go_loopw [7, 8, 9] (fun xv wv nv wr => xv = (Value.slice (some ⟨g3, 0, none⟩) v.length c3) ∧ wv = (Value.slice (some ⟨w3.heap.size, 0, none⟩) 0 0) ∧ nv = .int .i64 0 ∧ wr = w3.alloc (.cells #[] 3)) (fun _ _ _ _ => 0)
  case atStart => exact ⟨rfl, rfl, rfl, rfl⟩
  case round =>
    obtain ⟨rfl, rfl, rfl, hwr⟩ := hrel
    rw [← hwr] at hb4 ho4
    clear hwr
    obtain ⟨wo, rfl⟩ : ∃ wo : World, wo = wr := ⟨_, rfl⟩
    have hcx := ho4.cells
    have hdom := hD.dom
    go_wp2_with fail
    go_loopw [10] (fun iv wi => ∃ t : Nat, t ≤ v.length ∧ iv = .int .i64 t ∧ ∃ q, wi = wo.drewN q) (fun iv _ => v.length - (intOf iv).toNat)
    case atStart => exact ⟨0, Nat.zero_le _, rfl, (by first | exact ⟨_, rfl⟩ | exact ⟨0, rfl⟩ | exact still2 _ _ _ | exact still3 _ _ _ _)⟩
    case round =>
      obtain ⟨t, ht, rfl, q, rfl⟩ := hrel
      by_cases hlt : t < v.length
      · have q1 := hcx t hlt
        rw [Nat.zero_add] at q1
        have h0 := hdom t hlt
        generalize v.getD t 0 = x at *
        go_wp2_with fail
        go_roundw
        case rel => exact ⟨t + 1, by omega, by go_num, (by first | exact ⟨_, rfl⟩ | exact ⟨0, rfl⟩ | exact still2 _ _ _ | exact still3 _ _ _ _)⟩
        case measure => simp [intOf]; omega
      · obtain rfl : t = v.length := by omega
        go_wp2_with fail
        go_ret3
        exact ⟨g3, c3, _, _, rfl, ho4, below_drewN hb4 q⟩

set_option maxHeartbeats 4000000 in
theorem spec_DominantOf_none (gc oc n cc g o m cv : Nat) (c : List (List Int)) (v : List Int) (w : World) (hn : c.length = n) (hm : v.length = m) (hx : c.length ≤ 1048576) (hvx : v.length ≤ 1048576) (hrl : ∀ j, j < c.length → (c.getD j []).length ≤ 1048576)
    (hno : ¬ (wtOk c v ∧ finB c = true)) (hgc : gc < w.heap.size) (hr : Rows2 w gc oc c) (hv : Cells w g o v) :
    Calls Try.prog 78 #[(Value.slice (some ⟨gc, oc, none⟩) n cc), (Value.slice (some ⟨g, o, none⟩) m cv)] w (GotNone w) := by
  subst hn; subst hm
  have hcall := spec_IsWeight_any gc oc _ cc g o _ cv c v w rfl rfl hx hvx hrl hr hv
  by_cases hW : wtOk c v
  · have hF : finB c = false := by
      cases h : finB c with
      | true => exact absurd ⟨hW, h⟩ hno
      | false => rfl
    rw [decide_eq_true hW] at hcall
    have Hcall := Lib.hid hcall
    have HF := Lib.hid hF
    clear hcall hno hW hF
    go_enter Try.func78, Try.ntmps78
    go_wp2_with fail
    refine Hcall.out.mono ?_
    rintro e w1 ⟨rfl, hs1⟩
    have hb1 := below_still (Below.refl w.heap.size w) hs1
    clear hs1 Hcall
    have hcall := spec_IsFinite_any gc oc _ cc c w1 rfl hx hrl (Nat.lt_of_lt_of_le hgc hb1.size) (hr.below hb1 hgc)
    rw [HF.out] at hcall
    have Hcall := Lib.hid hcall
    clear hcall
    go_wp2_with fail
    refine Hcall.out.mono ?_
    rintro e w2 ⟨rfl, hb2'⟩
    have hb2 := hb1.trans (hb2'.mono hb1.size)
    clear Hcall hb1 hb2'
    go_wp2_with fail
    go_ret3
    exact ⟨_, _, rfl, (hb2.alloc hb2.size _).alloc (by simp; have := hb2.size; omega) _⟩
  · rw [decide_eq_false hW] at hcall
    have Hcall := Lib.hid hcall
    clear hcall hno hW
    go_enter Try.func78, Try.ntmps78
    go_wp2_with fail
    refine Hcall.out.mono ?_
    rintro e w1 ⟨rfl, hs1⟩
    have hb1 := below_still (Below.refl w.heap.size w) hs1
    clear hs1 Hcall
    go_wp2_with fail
    go_ret3
    exact ⟨_, _, rfl, (hb1.alloc hb1.size _).alloc (by simp; have := hb1.size; omega) _⟩

theorem contents_getD' {rs : List RowRef} {k : Nat} (hk : k < rs.length) : (contents rs).getD k [] = rs[k].2.2 := by simp [contents, List.getD, hk]

set_option maxRecDepth 100000 in
set_option maxHeartbeats 8000000 in
theorem spec_OrbitOf_dom (gc oc n cc g o m cv : Nat) (c : List (List Int)) (v : List Int) (M : List (List Int)) (b : Bool) (w : World) (hn : c.length = n) (hm : v.length = m) (hD : DomW c v) (hM : OrbM c v M b) (hgc : gc < w.heap.size) (hg : g < w.heap.size) (hr : Rows2 w gc oc c) (hv : Cells w g o v) :
    Calls Try.prog 45 #[(Value.slice (some ⟨gc, oc, none⟩) n cc), (Value.slice (some ⟨g, o, none⟩) m cv)] w (GotRowsB w M b) := by
  have hcall := spec_DominantOf_dom gc oc n cc g o m cv c v w hn hm hD hgc hg hr hv
  subst hn; subst hm
  have hn4 := hD.hC.2.1
  have hcl : ∀ j, j < c.length → (c.getD j []).length = c.length := fun j hj => hD.hC.2.2.1 j hj
  have Hcall := Lib.hid hcall
  clear hcall
  go_enter Try.func45, Try.ntmps45
  go_wp2_with fail
  refine Hcall.out.mono ?_
  rintro e w2 ⟨g1, c1, g2, c2, rfl, ho2, hb2⟩
  clear Hcall
  go_wp2_with fail
  have hg1 := ho2.base
  have hO3 : OwnRows (w2.alloc (.cells #[(Value.slice (some ⟨g1, 0, none⟩) v.length c1)] 24)) w.heap.size w2.heap.size 1 [(g1, c1, v)] := by
    have h2 := OwnV.new (w := w2) (B := w.heap.size) (E := 24) (Value.slice (some ⟨g1, 0, none⟩) v.length c1) rfl hb2.size
    exact ⟨by simpa [rowVal] using h2, ⟨fun r hr => by rw [List.mem_singleton] at hr; subst hr; exact ho2.alloc _, by simp⟩⟩
  have hb3 : Below w.heap.size w (w2.alloc (.cells #[(Value.slice (some ⟨g1, 0, none⟩) v.length c1)] 24)) := hb2.alloc hb2.size _
  go_loopw [9, 10] (fun qv kv wr => ∃ (k gQ cQ nQ : Nat) (rs : List RowRef), kv = .int .i64 k ∧ qv = (Value.slice (some ⟨gQ, 0, none⟩) nQ cQ) ∧ Hid (rs.length = nQ) ∧ k ≤ nQ ∧ nQ ≤ 200 ∧ Hid (QSt c v true (contents rs) k 0) ∧ OwnRows wr w.heap.size gQ cQ rs ∧ Below w.heap.size w wr) (fun _ kv _ => 200 - (intOf kv).toNat)
  case atStart =>
    exact ⟨0, w2.heap.size, 1, 1, [(g1, c1, v)], rfl, rfl, rfl, by omega, by omega, QSt.start hD true, hO3, hb3⟩
  case round =>
    clear hO3 hb3 ho2 hb2 hg1
    obtain ⟨k, gQ, cQ, nQ, rs, rfl, rfl, hrl, hk, hnQ, hst, hO, hb⟩ := hrel
    obtain ⟨wo, rfl⟩ : ∃ wo : World, wo = wr := ⟨_, rfl⟩
    by_cases hlt : k < nQ
    · go_wp2_with fail
      go_loopw [9, 11] (fun qv iv wi => ∃ (i gQ cQ nQ : Nat) (rs : List RowRef), i ≤ c.length ∧ iv = .int .i64 i ∧ qv = (Value.slice (some ⟨gQ, 0, none⟩) nQ cQ) ∧ Hid (rs.length = nQ) ∧ k < nQ ∧ nQ ≤ 200 ∧ Hid (QSt c v true (contents rs) k i) ∧ OwnRows wi w.heap.size gQ cQ rs ∧ Below w.heap.size w wi) (fun _ iv _ => c.length - (intOf iv).toNat)
      case atStart => exact ⟨0, gQ, cQ, nQ, rs, Nat.zero_le _, rfl, rfl, hrl, hlt, hnQ, hst, hO, hb⟩
      case round =>
        clear hO hb hst hrl hlt hnQ hk
        obtain ⟨i, gQ, cQ, nQ, rs, hi, rfl, rfl, hrl, hk, hnQ, hst, hO, hb⟩ := hrel
        by_cases hil : i < c.length
        · have hkr : k < rs.length := by rw [hrl.out]; exact hk
          have hrow := hst.out.row (by rw [contents_length]; exact hkr)
          have hcg := contents_getD' hkr
          have hq : wr.cell? ⟨gQ, k, none⟩ = some (rowVal rs[k]) := by
            rw [hO.1.cell k (by simpa using hkr)]; simp
          have hoi := hO.2.1 _ (List.getElem_mem hkr)
          have HADD := hst.out.add hD (by rw [contents_length]; exact hkr) hil
          have HBIG := hst.out.big' hD (by rw [contents_length]; exact hkr) hil
          have HSKIP := hst.out.skip (i := i)
          rw [hcg] at hrow HADD HBIG HSKIP
          have hR2 := hO.rows2
          have hrlen : ∀ j, j < (contents rs).length → ((contents rs).getD j []).length ≤ 1048576 := fun j hj => by
            have := (hst.out.orb ((contents rs).getD j []) (by simp [List.getD, hj])).1
            omega
          clear hcg
          generalize rs[k] = r at *
          obtain ⟨bi, ci, x⟩ := r
          have hq' : wr.cell? ⟨gQ, k, none⟩ = some (Value.slice (some ⟨bi, 0, none⟩) x.length ci) := hq
          have hxl : x.length = c.length := hrow.1
          have hoi' : Own wr w.heap.size bi ci x := hoi
          have hbl := hoi'.lt
          have Hxl := Lib.hid hxl
          have hix : i < x.length := by omega
          have hx4 : x.length ≤ 4 := by omega
          have hcall := spec_l6Reflect_any gc oc _ cc bi 0 _ ci i c x wr rfl rfl (by omega) hn4 hcl hix (Nat.lt_of_lt_of_le hgc hb.size) hbl (hr.below hb hgc) hoi'.cells
          have Hcall := Lib.hid hcall; have Hadd := Lib.hid HADD; have Hbig := Lib.hid HBIG; have Hskip := Lib.hid HSKIP; have Hrow := Lib.hid hrow
          have Hrlen := Lib.hid hrlen
          clear hcall HADD HBIG HSKIP hrow hq hoi hxl hrlen
          go_wp2_with fail
          refine Hcall.out.mono ?_
          rintro e w3 ⟨g3, c3, rfl, ho3, hb3⟩
          have hB3 := hb.trans (hb3.mono hb.size)
          have hO3 := hO.below hb3
          have hoi3 := hoi'.below hb3 hbl
          have hq3 : w3.cell? ⟨gQ, k, none⟩ = some (Value.slice (some ⟨bi, 0, none⟩) x.length ci) := (hb3.cell (p := ⟨gQ, k, none⟩) hO.lt).trans hq'
          have hxi := hoi3.cells i hix
          rw [Nat.zero_add] at hxi
          have ho3' := ho3.mono hb.size
          have hne3 : ∀ s ∈ rs, s.1 ≠ g3 := fun s hs e => by
            have h1 := (hO.2.1 s hs).lt
            have h2 := ho3.base
            omega
          rw [refl_length]
          have hcl3 := refl_length c i x
          generalize hy : refl c i x = y at *
          have Hy := Lib.hid hy
          clear hy
          obtain ⟨xi, hxi2⟩ : ∃ xi, xi = x.getD i 0 := ⟨_, rfl⟩
          rw [← hxi2] at hxi
          have Hxi := Lib.hid hxi2; have Hcl3 := Lib.hid hcl3
          have hcall7 := spec_l7In_any gQ 0 nQ cQ g3 0 x.length c3 (contents rs) y w3 (by rw [contents_length]; exact hrl.out) hcl3 (by rw [contents_length]; have := hrl.out; omega) Hrlen.out hO3.rows2 (by have := ho3.cells; exact this)
          clear hxi2 hcl3 hO hb hoi' hb3 hq' Hcall ho3 hR2
          by_cases hpos : 0 < xi
          · by_cases hin : y ∈ contents rs
            · rw [decide_eq_true hin] at hcall7
              have Hcall7 := Lib.hid hcall7
              have hsk := Hskip.out (fun _ => hin)
              have Hsk := Lib.hid hsk
              clear hcall7 hsk hin
              go_wp2_with fail
              refine Hcall7.out.mono ?_
              rintro e w4 ⟨rfl, hs4⟩
              have hB4 := below_still hB3 hs4
              have hO4 := hO3.still hs4
              clear hs4 hB3 hO3 Hcall7
              go_wp2_with fail
              go_roundw
              case rel => exact ⟨i + 1, gQ, cQ, nQ, rs, by omega, by go_num, rfl, hrl, hk, hnQ, Hsk.out, hO4, hB4⟩
              case measure => simp [intOf]; omega
            · rw [decide_eq_false hin] at hcall7
              have Hcall7 := Lib.hid hcall7
              have Hin := Lib.hid hin
              clear hcall7 hin
              go_wp2_with fail
              refine Hcall7.out.mono ?_
              rintro e w4 ⟨rfl, hs4⟩
              have hB4 := below_still hB3 hs4
              have hO4 := hO3.still hs4
              have ho4 := ho3'.still hs4
              clear hs4 hB3 hO3 Hcall7 ho3'
              by_cases h200 : 200 ≤ nQ
              · have hno := Hbig.out Hin.out (by rw [contents_length, hrl.out]; exact h200)
                have hMb : M = [] ∧ b = false := by
                  rcases hM with ⟨h1, h2, -⟩ | ⟨-, h1, h2⟩
                  · exact absurd ⟨M, h1, h2⟩ hno
                  · exact ⟨h1, h2⟩
                obtain ⟨rfl, rfl⟩ := hMb
                have h200I : (200 : Int) ≤ (nQ : Int) := by omega
                go_wp2_with fail
                go_ret2
                exact GotRowsB.mk' _ _ [] rfl rfl (OwnRows.empty hB4.size) (hB4.alloc hB4.size _)
              · have h200I : (nQ : Int) < (200 : Int) := by omega
                have had := Hadd.out Hin.out
                have Had := Lib.hid had
                clear had
                go_wp2_with (at_builtin; refine wpList_append_row rfl _ _ rfl w.heap.size gQ cQ nQ w4.heap.size rs (g3, c3, y) _ hrl.out (by unfold rowVal; rw [Hcl3.out]) rfl hO4 ho4 hne3 rfl rfl (by omega) ?_)
                intro g5 c5 w5 hO5 hg5 hor5
                have hB5 : Below w.heap.size w w5 := hB4.grown hg5 hB4.size (by intro j hj; cases hj; exact hO4.base)
                clear hO4 hB4 hg5 hor5 ho4
                go_wp2_with fail
                go_roundw
                case rel =>
                  refine ⟨i + 1, g5, c5, nQ + 1, rs ++ [(g3, c3, y)], by omega, by go_num, rfl, ?_, by omega, by omega, ?_, hO5, hB5⟩
                  · show _ = _
                    rw [List.length_append, hrl.out]; rfl
                  · show QSt _ _ _ _ _ _
                    rw [contents_append]; exact Had.out
                case measure => simp [intOf]; omega
          · have hsk := Hskip.out (fun h => absurd (h trivial) (by show ¬ 0 < x.getD i 0; rw [← Hxi.out]; exact hpos))
            have Hsk := Lib.hid hsk
            clear hsk hcall7
            go_wp2_with fail
            go_roundw
            case rel => exact ⟨i + 1, gQ, cQ, nQ, rs, by omega, by go_num, rfl, hrl, hk, hnQ, Hsk.out, hO3, hB3⟩
            case measure => simp [intOf]; omega
        · obtain rfl : i = c.length := by omega
          have hnx := hst.out.next (by rw [contents_length, hrl.out]; exact hk)
          have Hnx := Lib.hid hnx
          clear hnx
          go_wp2_with fail
          go_roundw
          case rel => exact ⟨k + 1, gQ, cQ, nQ, rs, by go_num, rfl, hrl, by omega, hnQ, Hnx.out, hO, hb⟩
          case measure => simp [intOf]; omega
    · obtain rfl : k = nQ := by omega
      have hall : ∀ x, x ∈ contents rs ↔ OrbP c v x := by
        refine QSt.all (down := true) ?_ hD
        rw [contents_length, hrl.out]; exact hst.out
      have horb := putsG_orb hall
      have hlen : (putsG (contents rs)).length ≤ 200 := by
        have := nodup_le horb.1.nodup hst.out.nodup (fun x hx => (hall x).2 ((horb.2 x).1 hx))
        rw [contents_length, hrl.out] at this
        omega
      have hMb : M = putsG (contents rs) ∧ b = true := by
        rcases hM with ⟨h1, h2, h3⟩ | ⟨h0, -, -⟩
        · exact ⟨h1.uniq horb, h3⟩
        · exact absurd ⟨_, horb, hlen⟩ h0
      obtain ⟨rfl, rfl⟩ := hMb
      have Hall := Lib.hid hall
      clear hall horb hM hlen
      have hBw := hb.size
      go_wp2_with fail
      go_loopw [13, 14] (fun ov kv wi => ∃ (t gP cP nP : Nat) (rp : List RowRef), t ≤ k ∧ kv = .int .i64 t ∧ ov = (Value.slice (some ⟨gP, 0, none⟩) nP cP) ∧ Hid (rp.length = nP) ∧ nP ≤ t ∧ Hid (contents rp = putsG ((contents rs).take t)) ∧ OwnRows wi wo.heap.size gP cP rp ∧ Below wo.heap.size wo wi) (fun _ kv _ => k - (intOf kv).toNat)
      case atStart => exact ⟨0, wo.heap.size, 0, 0, [], Nat.zero_le _, rfl, rfl, rfl, by omega, rfl, OwnRows.empty (Nat.le_refl _), (Below.refl _ _).alloc (Nat.le_refl _) _⟩
      case round =>
        obtain ⟨t, gP, cP, nP, rp, ht, rfl, rfl, hpl, hnP, hcP, hP, hbi⟩ := hrel
        by_cases htl : t < k
        · have hkr : t < rs.length := by rw [hrl.out]; exact htl
          have hcg := contents_getD' hkr
          have htk := putsG_take (L := contents rs) (k := t) (by rw [contents_length]; exact hkr)
          rw [hcg] at htk
          have hOi := hO.below hbi
          have hq : wr.cell? ⟨gQ, t, none⟩ = some (rowVal rs[t]) := by
            rw [hOi.1.cell t (by simpa using hkr)]; simp
          have hoi := hOi.2.1 _ (List.getElem_mem hkr)
          have hxl : rs[t].2.2.length = c.length := ((Hall.out _).1 (List.mem_map.2 ⟨rs[t], List.getElem_mem hkr, rfl⟩)).1
          have hsame : ∀ r ∈ rp, r.2.2.length = rs[t].2.2.length := by
            intro r hr'
            have h1 : r.2.2 ∈ contents rp := List.mem_map.2 ⟨r, hr', rfl⟩
            rw [hcP.out] at h1
            have h2 := ((putsG_aux _ [] List.Pairwise.nil).2 _).1 h1
            have h3 : r.2.2 ∈ contents rs := by
              rcases h2 with h | h
              · exact List.mem_of_mem_take h
              · simp at h
            rw [((Hall.out _).1 h3).1, hxl]
          clear hcg
          generalize rs[t] = r at *
          obtain ⟨bi, ci, x⟩ := r
          have hq' : wr.cell? ⟨gQ, t, none⟩ = some (Value.slice (some ⟨bi, 0, none⟩) x.length ci) := hq
          have hoi' : Own wr w.heap.size bi ci x := hoi
          have hxl' : x.length = c.length := hxl
          have htk' : putsG ((contents rs).take (t + 1)) = putG (putsG ((contents rs).take t)) x := htk
          have hcall := spec_l25Put_any wo.heap.size gP cP nP bi 0 x.length ci rp x wr hpl.out rfl (by have := hpl.out; omega) (by omega) hsame hP hoi'.lt hoi'.cells
          rw [hcP.out, ← htk'] at hcall
          have Hcall := Lib.hid hcall
          have hle : (putsG ((contents rs).take (t + 1))).length ≤ nP + 1 := by
            rw [htk']
            have := putG_length (putsG ((contents rs).take t)) x
            rw [← hcP.out, contents_length, hpl.out] at this
            rw [← hcP.out]; omega
          have Hle := Lib.hid hle
          clear hcall hq hoi hxl hxl' htk htk' hle hsame hOi hoi' hP
          go_wp2_with fail
          refine Hcall.out.mono ?_
          rintro e w3 ⟨g3, c3, rp3, rfl, hc3, hP3, -, hb3⟩
          obtain ⟨n3, hn3⟩ : ∃ n3, (putsG ((contents rs).take (t + 1))).length = n3 := ⟨_, rfl⟩
          have hl3 : rp3.length = n3 := by rw [← hn3, ← hc3, contents_length]
          rw [hn3] at Hle ⊢
          have hn3' := Hle.out
          have Hc3 := Lib.hid hc3; have Hl3 := Lib.hid hl3
          clear hn3 hc3 hl3 Hcall
          go_wp2_with fail
          go_roundw
          case rel => exact ⟨t + 1, g3, c3, n3, rp3, by omega, by go_num, rfl, Hl3.out, by omega, Hc3.out, hP3, hbi.trans (hb3.mono hbi.size)⟩
          case measure => simp [intOf]; omega
        · obtain rfl : t = k := by omega
          have he : (contents rs).take t = contents rs := List.take_of_length_le (by rw [contents_length, hrl.out]; exact Nat.le_refl _)
          rw [he] at hcP
          have HcP := Lib.hid hcP.out
          clear hcP he
          go_wp2_with fail
          go_ret2
          exact GotRowsB.mk' gP cP rp hpl.out HcP.out (hP.mono hBw) (hb.trans (hbi.mono hBw))

set_option maxHeartbeats 4000000 in
theorem spec_OrbitOf_none (gc oc n cc g o m cv : Nat) (c : List (List Int)) (v : List Int) (w : World) (hn : c.length = n) (hm : v.length = m) (hx : c.length ≤ 1048576) (hvx : v.length ≤ 1048576) (hrl : ∀ j, j < c.length → (c.getD j []).length ≤ 1048576)
    (hno : ¬ (wtOk c v ∧ finB c = true)) (hgc : gc < w.heap.size) (hr : Rows2 w gc oc c) (hv : Cells w g o v) :
    Calls Try.prog 45 #[(Value.slice (some ⟨gc, oc, none⟩) n cc), (Value.slice (some ⟨g, o, none⟩) m cv)] w (GotRowsB w [] false) := by
  have hcall := spec_DominantOf_none gc oc n cc g o m cv c v w hn hm hx hvx hrl hno hgc hr hv
  subst hn; subst hm
  have Hcall := Lib.hid hcall
  clear hcall hno
  go_enter Try.func45, Try.ntmps45
  go_wp2_with fail
  refine Hcall.out.mono ?_
  rintro e w2 ⟨g1, g2, rfl, hb2⟩
  clear Hcall
  go_wp2_with fail
  go_ret2
  exact GotRowsB.mk' _ _ [] rfl rfl (OwnRows.empty hb2.size) (hb2.alloc hb2.size _)

/-- what ExtremeWeights answers -/
def ExtM (c : List (List Int)) (v : List Int) (M : List (List Int)) (b : Bool) : Prop :=
  (DomW c v ∧ OrbM c v M b) ∨ (¬ DomW c v ∧ M = [] ∧ b = false)
theorem extM_ex (c : List (List Int)) (v : List Int) : ∃ M b, ExtM c v M b := by
  by_cases h : DomW c v
  · obtain ⟨M, b, hM⟩ := orbM_ex c v
    exact ⟨M, b, .inl ⟨h, hM⟩⟩
  · exact ⟨[], false, .inr ⟨h, rfl, rfl⟩⟩
theorem ExtM.few {c : List (List Int)} {v : List Int} {M : List (List Int)} {b : Bool} (h : ExtM c v M b) : M.length ≤ 200 ∧ ∀ x ∈ M, x.length ≤ 15 := by
  rcases h with ⟨hD, h⟩ | ⟨-, rfl, -⟩
  · rcases h with ⟨h1, h2, -⟩ | ⟨-, rfl, -⟩
    · refine ⟨h2, fun x hx => ?_⟩
      have := ((h1.2 x).1 hx).1
      have := hD.hC.2.1
      omega
    · exact ⟨by simp, by simp⟩
  · exact ⟨by simp, by simp⟩

set_option maxHeartbeats 4000000 in
theorem spec_ExtremeWeights_any (gc oc n cc g o m cv : Nat) (c : List (List Int)) (v : List Int) (M : List (List Int)) (b : Bool) (w : World) (hn : c.length = n) (hm : v.length = m) (hM : ExtM c v M b) (hx : c.length ≤ 1048576) (hvx : v.length ≤ 1048576) (hrl : ∀ j, j < c.length → (c.getD j []).length ≤ 1048576)
    (hgc : gc < w.heap.size) (hg : g < w.heap.size) (hr : Rows2 w gc oc c) (hv : Cells w g o v) :
    Calls Try.prog 21 #[(Value.slice (some ⟨gc, oc, none⟩) n cc), (Value.slice (some ⟨g, o, none⟩) m cv)] w (GotRowsB w M b) := by
  subst hn; subst hm
  have hcall := spec_IsDominant_any g o _ cv v w rfl hvx hv
  by_cases hdom : (firstNeg v).isNone = true
  · rw [hdom] at hcall
    have hcall2 : ∀ w2, Below w.heap.size w w2 → Calls Try.prog 45 #[(Value.slice (some ⟨gc, oc, none⟩) c.length cc), (Value.slice (some ⟨g, o, none⟩) v.length cv)] w2 (GotRowsB w2 M b) := fun w2 hb => by
      have h1 : gc < w2.heap.size := Nat.lt_of_lt_of_le hgc hb.size
      have h2 : g < w2.heap.size := Nat.lt_of_lt_of_le hg hb.size
      rcases hM with ⟨hD, hM⟩ | ⟨hD, rfl, rfl⟩
      · exact spec_OrbitOf_dom gc oc _ cc g o _ cv c v M b w2 rfl rfl hD hM h1 h2 (hr.below hb hgc) (hv.below hb hg)
      · exact spec_OrbitOf_none gc oc _ cc g o _ cv c v w2 rfl rfl hx hvx hrl (fun h => hD (DomW.of h.1 h.2 hdom)) h1 (hr.below hb hgc) (hv.below hb hg)
    have Hcall := Lib.hid hcall; have Hcall2 := Lib.hid hcall2
    clear hcall hcall2 hM hdom
    go_enter Try.func21, Try.ntmps21
    go_wp2_with fail
    refine Hcall.out.mono ?_
    rintro e w1 ⟨rfl, hs1⟩
    have hb1 := below_still (Below.refl w.heap.size w) hs1
    clear hs1 Hcall
    have hcall := Hcall2.out w1 hb1
    have Hcall := Lib.hid hcall
    clear hcall Hcall2
    go_wp2_with fail
    refine Hcall.out.mono ?_
    rintro e w2 ⟨g2, c2, rs, rfl, hcr, hO2, hb2⟩
    clear Hcall
    go_wp2_with fail
    go_ret2
    exact ⟨g2, c2, rs, rfl, hcr, hO2.mono hb1.size, hb1.trans (hb2.mono hb1.size)⟩
  · have hf : (firstNeg v).isNone = false := Bool.eq_false_iff.2 hdom
    rw [hf] at hcall
    have hMb : M = [] ∧ b = false := by
      rcases hM with ⟨hD, -⟩ | ⟨-, h1, h2⟩
      · exfalso
        apply hdom
        rw [firstNeg_nil hD.dom]; rfl
      · exact ⟨h1, h2⟩
    obtain ⟨rfl, rfl⟩ := hMb
    have Hcall := Lib.hid hcall
    clear hcall hM hdom hf
    go_enter Try.func21, Try.ntmps21
    go_wp2_with fail
    refine Hcall.out.mono ?_
    rintro e w1 ⟨rfl, hs1⟩
    have hb1 := below_still (Below.refl w.heap.size w) hs1
    clear hs1 Hcall
    go_wp2_with fail
    go_ret2
    exact GotRowsB.mk' _ _ [] rfl rfl (OwnRows.empty hb1.size) (hb1.alloc hb1.size _)
end Go.Proofs.Ytjiljcekcpemmaa
