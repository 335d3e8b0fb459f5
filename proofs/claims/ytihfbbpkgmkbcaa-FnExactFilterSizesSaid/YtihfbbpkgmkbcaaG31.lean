/- The reference's l29Put: contract. -/
import Derived.Test.YtihfbbpkgmkbcaaG19
import Derived.Test.YtihfbbpkgmkbcaaGrt
import Derived.Test.YtihfbbpkgmkbcaaG30
import Derived.Test.YtihfbbpkgmkbcaaG22
import Derived.Deep.RegionHeld3
namespace Go.Proofs.Ytihfbbpkgmkbcaa
set_option maxRecDepth 100000
open Go.RowKit Game

theorem down_word {u v : List Int} (h : u.length = v.length) : (0 < wordCmp u v) ↔ downCmp u v < 0 := by
  have e : wordCmp u v = lexCmp u v := by unfold wordCmp; rw [if_neg (by omega), if_neg (by omega)]
  have e2 := sliceCmp_same h
  have e3 := sliceCmp_anti u v
  unfold downCmp
  omega
structure P29St (v : List Int) (z : Int) (H : Nat) (rs : List WRef) (i : Nat) (acc : List WRef) (pl : Bool) : Prop where
  blocks : ∀ s ∈ acc, (∃ r ∈ rs.take i, r.1.1 = s.1.1) ∨ H ≤ s.1.1
  fin : contW acc ++ putP v z (contW (rs.drop i)) pl = putP v z (contW rs) false
  len : acc.length ≤ i + 1
  lenF : pl = false → acc.length ≤ i
section
variable {v : List Int} {z : Int} {H : Nat} {rs acc : List WRef} {i : Nat} {pl : Bool}
theorem P29St.start : P29St v z H rs 0 [] false := ⟨by simp, by simp [contW], by simp, by simp⟩
theorem contW_drop (rs : List WRef) {i : Nat} (hi : i < rs.length) : contW (rs.drop i) = (rs[i].1.2.2, rs[i].2) :: contW (rs.drop (i + 1)) := by
  rw [List.drop_eq_getElem_cons hi]; rfl
theorem P29St.step (h : P29St v z H rs i acc pl) (hi : i < rs.length) (new : List WRef) (pl' : Bool) (hnew : ∀ s ∈ new, rs[i].1.1 = s.1.1 ∨ H ≤ s.1.1) (hl : acc.length + new.length ≤ i + 2) (hF : pl' = false → acc.length + new.length ≤ i + 1)
    (hf : putP v z (contW (rs.drop i)) pl = contW new ++ putP v z (contW (rs.drop (i + 1))) pl') : P29St v z H rs (i + 1) (acc ++ new) pl' := by
  refine ⟨fun s hs => ?_, ?_, by rw [List.length_append]; omega, fun e => by rw [List.length_append]; have := hF e; omega⟩
  · have ht : rs.take (i + 1) = rs.take i ++ [rs[i]] := List.take_succ_eq_append_getElem hi
    rcases List.mem_append.1 hs with h1 | h1
    · rcases h.blocks s h1 with ⟨r, hr, e⟩ | h2
      · exact .inl ⟨r, by rw [ht]; exact List.mem_append_left _ hr, e⟩
      · exact .inr h2
    · rcases hnew s h1 with e | h2
      · exact .inl ⟨rs[i], by rw [ht]; exact List.mem_append_right _ (List.mem_singleton.2 rfl), e⟩
      · exact .inr h2
  · rw [← h.fin, hf]
    simp [contW]
theorem P29St.ne (h : P29St v z H rs i acc pl) (hnd : ((rs.map (·.1)).map (·.1)).Nodup) (hi : i < rs.length) (hH : rs[i].1.1 < H) : ∀ s ∈ acc, s.1.1 ≠ rs[i].1.1 := by
  intro s hs e
  rcases h.blocks s hs with ⟨r, hr, e1⟩ | h1
  · obtain ⟨t, ht, rfl⟩ := List.mem_iff_getElem.1 hr
    rw [List.length_take] at ht
    rw [List.getElem_take] at e1
    have ht' : t < rs.length := by omega
    have h2 : ((rs.map (·.1)).map (·.1))[t]'(by simpa using ht') = ((rs.map (·.1)).map (·.1))[i]'(by simpa using hi) := by simpa using e1.trans e
    have h3 := (List.getElem_inj hnd).1 h2
    omega
  · omega
end
def GotPutW (w : World) (B0 : Nat) (L : List Wt) (e : Ending) (w' : World) : Prop :=
  ∃ (g cap : Nat) (rs : List WRef), e = .returned (Value.slice (some ⟨g, 0, none⟩) rs.length cap) ∧ contW rs = L ∧ OwnW w' B0 g cap rs ∧ w.heap.size ≤ g ∧ Below w.heap.size w w'
theorem GotPutW.mk' {w w' : World} {B0 n : Nat} {L : List Wt} (g cap : Nat) (rs : List WRef) (hn : rs.length = n) (hc : contW rs = L) (ho : OwnW w' B0 g cap rs) (hg : w.heap.size ≤ g) (hb : Below w.heap.size w w') : GotPutW w B0 L (.returned (Value.slice (some ⟨g, 0, none⟩) n cap)) w' := by
  subst hn; exact ⟨g, cap, rs, rfl, hc, ho, hg, hb⟩
theorem putP_eq {x v : List Int} {c z : Int} {l : List Wt} {pl : Bool} (h : x = v) (h0 : c + z ≠ 0) : putP v z ((x, c) :: l) pl = contW [((0, 0, x), c + z)] ++ putP v z l true := by
  simp only [putP]; rw [if_pos h, if_neg h0]; rfl
theorem putP_zero {x v : List Int} {c z : Int} {l : List Wt} {pl : Bool} (h : x = v) (h0 : c + z = 0) : putP v z ((x, c) :: l) pl = contW [] ++ putP v z l true := by
  simp only [putP]; rw [if_pos h, if_pos h0]; rfl
theorem putP_old {x v : List Int} {c z : Int} {l : List Wt} {pl : Bool} (h : x ≠ v) (h0 : pl = true ∨ ¬ 0 < wordCmp v x) (hl : v.length = x.length) : putP v z ((x, c) :: l) pl = contW [((0, 0, x), c)] ++ putP v z l pl := by
  simp only [putP]; rw [if_neg h, if_neg (fun q => by rcases h0 with e | e; rw [e] at q; simp at q; exact e ((down_word hl).2 q.2))]; rfl
theorem putP_new {x v : List Int} {c z : Int} {l : List Wt} (h : x ≠ v) (h0 : 0 < wordCmp v x) (hl : v.length = x.length) (hz : z ≠ 0) : putP v z ((x, c) :: l) false = contW [((0, 0, v), z), ((0, 0, x), c)] ++ putP v z l true := by
  simp only [putP]; rw [if_neg h, if_pos ⟨trivial, (down_word hl).1 h0⟩, if_neg hz]; rfl
theorem putP_skip {x v : List Int} {c z : Int} {l : List Wt} (h : x ≠ v) (h0 : 0 < wordCmp v x) (hl : v.length = x.length) (hz : z = 0) : putP v z ((x, c) :: l) false = contW [((0, 0, x), c)] ++ putP v z l true := by
  simp only [putP]; rw [if_neg h, if_pos ⟨trivial, (down_word hl).1 h0⟩, if_pos hz]; rfl

set_option maxHeartbeats 4000000 in
theorem spec_l29Put_ok (B0 g cap n g1 o1 n1 c1 : Nat) (rs : List WRef) (v : List Int) (z : Int) (w : World) (hn : rs.length = n) (hn1 : v.length = n1) (hl : rs.length ≤ 1000000) (hvl : v.length ≤ 1048576)
    (hsame : ∀ r ∈ rs, r.1.2.2.length = v.length) (hdesc : Desc (contW rs)) (hct : CtW 1000000000000000000 (contW rs)) (hz : -1000000000000000000 ≤ z ∧ z ≤ 1000000000000000000)
    (ho : OwnW w B0 g cap rs) (hg1 : g1 < w.heap.size) (hc1 : Cells w g1 o1 v) :
    Calls Try.prog 30 #[(Value.slice (some ⟨g, 0, none⟩) n cap), (Value.slice (some ⟨g1, o1, none⟩) n1 c1), .int .i64 z] w (GotPutW w B0 (putW (contW rs) v z)) := by
  subst hn; subst hn1
  rw [← putP_put v z _ hdesc]
  have hB0 : B0 ≤ w.heap.size := by have := ho.base; have := ho.lt; omega
  have hg := ho.lt
  have Hsame := Lib.hid hsame; have Hct := Lib.hid hct; have Ho := Lib.hid ho; have Hc1 := Lib.hid hc1
  clear hsame hct hdesc ho hc1
  go_enter Try.func30, Try.ntmps30
  go_wp2
  go_loopw [7, 8, 9] (fun ov pv iv wr => ∃ (i p g' c' : Nat) (acc : List WRef) (pl : Bool), i ≤ rs.length ∧ iv = .int .i64 i ∧ pv = .bool pl ∧ ov = (Value.slice (some ⟨g', 0, none⟩) p c') ∧ Hid (acc.length = p) ∧ p ≤ i + 1 ∧ Hid (P29St v z w.heap.size rs i acc pl) ∧ OwnW wr B0 g' c' acc ∧ w.heap.size ≤ g' ∧ Below w.heap.size w wr) (fun _ _ iv _ => rs.length - (intOf iv).toNat)
  case atStart =>
    exact ⟨0, 0, w.heap.size, 0, [], false, Nat.zero_le _, rfl, rfl, rfl, rfl, by omega, P29St.start, OwnW.empty hB0, Nat.le_refl _, (Below.refl _ _).alloc (Nat.le_refl _) _⟩
  case round =>
    obtain ⟨i, p, g', c', acc, pl, hi, rfl, rfl, rfl, hp, hpi, hst, hO, hgn, hb⟩ := hrel
    by_cases hlt : i < rs.length
    · have hm : rs[i] ∈ rs := List.getElem_mem hlt
      have hoi := (Ho.out.ofMem hm).below hb (Ho.out.ofMem hm).lt
      have hneI := hst.out.ne Ho.out.2.2 hlt (Ho.out.ofMem hm).lt
      have hbi : rs[i].1.1 < w.heap.size := (Ho.out.ofMem hm).lt
      have hxl := Hsame.out _ hm
      have hti := Hct.out (rs[i].1.2.2, rs[i].2) (List.mem_map_of_mem (f := fun r : WRef => (r.1.2.2, r.2)) hm)
      obtain ⟨q1, q2⟩ := Ho.out.cells hlt
      replace q1 := (hb.cell (p := ⟨g, i * 2, none⟩) hg).trans q1
      replace q2 := (hb.cell (p := ⟨g, i * 2 + 1, none⟩) hg).trans q2
      have HS := Lib.hid (fun new pl' => hst.out.step hlt new pl')
      have Hcd := Lib.hid (contW_drop rs hlt)
      have Hlen := Lib.hid hst.out.lenF
      generalize rs[i] = r at *
      obtain ⟨⟨bi, ci, xi⟩, ti⟩ := r
      have q1' : wr.cell? ⟨g, i * 2, none⟩ = some (Value.slice (some ⟨bi, 0, none⟩) xi.length ci) := q1
      have q2' : wr.cell? ⟨g, i * 2 + 1, none⟩ = some (.int .i64 ti) := q2
      have hoi' : Own wr B0 bi ci xi := hoi
      have hxl' : xi.length = v.length := hxl
      have hti' : -1000000000000000000 ≤ ti ∧ ti ≤ 1000000000000000000 := hti
      have hbi' : bi < w.heap.size := hbi
      have hcW := Hc1.out.below hb hg1
      have hcallE := spec_EqualWords_any bi 0 xi.length ci g1 o1 v.length c1 xi v wr rfl rfl (by omega) hoi'.cells hcW
      have HG0 := Lib.hid (fun W (hs : ∃ n, W = wr.drewN n) => spec_l25Greater_any g1 o1 _ c1 bi 0 _ ci v xi W rfl rfl hxl'.symm (by omega) (hcW.still hs) (hoi'.cells.still hs))
      have HneI := Lib.hid hneI
      have Hp2 : Hid (acc.length ≤ i + 1) := Lib.hid hst.out.len
      have Hxl := Lib.hid hxl'
      clear q1 q2 hoi hm hneI hst hcW hxl hti hbi hxl'
      by_cases hxw : xi = v
      · rw [decide_eq_true hxw] at hcallE
        have HcallE := Lib.hid hcallE; have Hxw := Lib.hid hxw
        clear hcallE hxw HG0
        have ew : IntKind.i64.wrap (ti + z) = ti + z := IntWalk.i64_in _ ⟨by omega, by omega⟩
        by_cases h0 : ti + z = 0
        · have H0 := Lib.hid h0
          have hne0 : (ti + z != 0) = false := by rw [h0]; rfl
          clear h0
          go_wp2_with fail
          refine HcallE.out.mono ?_
          rintro e w2 ⟨rfl, hs2⟩
          have q2'' := (cell_still hs2 _).trans q2'
          have hB9 := below_still hb hs2
          have hO9 := hO.still hs2
          clear hb hO hoi' q1' q2' HcallE hs2
          go_wp2_with fail
          go_roundw
          case rel => exact ⟨i + 1, p, g', c', acc, true, by omega, by go_num, by first | rfl | trivial, rfl, hp, by omega, (by have := HS.out [] true (by simp) (by have := Hp2.out; simp; omega) (by simp) (by rw [Hcd.out]; exact putP_zero Hxw.out H0.out); rw [List.append_nil] at this; exact this), hO9, hgn, hB9⟩
          case measure => simp [intOf]; omega
        · have H0 := Lib.hid h0
          have hne0 : (ti + z != 0) = true := by rw [bne_iff_ne]; exact h0
          clear h0
          go_wp2_with fail
          refine HcallE.out.mono ?_
          rintro e w2 ⟨rfl, hs2⟩
          have q1'' := (cell_still hs2 _).trans q1'
          have q2'' := (cell_still hs2 _).trans q2'
          have hB9 := below_still hb hs2
          have hO9 := hO.still hs2
          have hoi9 := hoi'.still hs2
          clear hb hO hoi' q1' q2' HcallE hs2
          have Hneg : Hid (some g ≠ some g') := fun e => by cases e; omega
          go_wp2_with fail
          go_region_held3 (fun W => W.cell? ⟨g, i * 2, none⟩ = some (Value.slice (some ⟨bi, 0, none⟩) xi.length ci) ∧ W.cell? ⟨g, i * 2 + 1, none⟩ = some (.int .i64 ti))
            (first | go_keep | exact ⟨hg3.cell (a := ⟨g, i * 2, none⟩) q1'' Hneg.out, hg3.cell (a := ⟨g, i * 2 + 1, none⟩) q2'' Hneg.out⟩)
            (first
              | (refine step_append_wt (w := w2.drew) (by rfl) _ _ (by rfl) B0 g' c' p w2.heap.size bi ci xi.length acc xi (ti + z) _ hp.out rfl (by rfl) (by rfl) (by exact hO9.still ⟨1, rfl⟩) (by exact hoi9.still ⟨1, rfl⟩) HneI.out (by rfl) (by rfl) (by omega) ?_; intro g3 c3 w3 ho3 hg3 hor3))
          have hB3 : Below w.heap.size w w3 := (Below.drew hB9).grown hg3 hB9.size (by intro j hj; cases hj; exact hgn)
          have hgn3 : w.heap.size ≤ g3 := by
            rcases hor3 with h | h
            · omega
            · have := hB9.size; have h2 : w2.heap.size < g3 := h; omega
          clear hg3 hor3 hoi9 hO9 hB9 q1'' q2''
          go_wp2_with fail
          go_roundw
          case rel => exact ⟨i + 1, p + 1, g3, c3, _, true, by omega, by go_num, by first | rfl | trivial, rfl, by show _ = _; rw [List.length_append, hp.out]; rfl, by omega, HS.out [((bi, ci, xi), ti + z)] true (by intro s hs; simp at hs; subst hs; exact .inl rfl) (by have := Hp2.out; simp; omega) (by simp) (by rw [Hcd.out]; exact putP_eq Hxw.out H0.out), ho3, hgn3, hB3⟩
          case measure => simp [intOf]; omega
      · rw [decide_eq_false hxw] at hcallE
        have HcallE := Lib.hid hcallE; have Hxw := Lib.hid hxw
        clear hcallE hxw
        cases pl with
        | true =>
          clear HG0 Hlen
          go_wp2_with fail
          refine HcallE.out.mono ?_
          rintro e w2 ⟨rfl, hs2⟩
          have q1'' := (cell_still hs2 _).trans q1'
          have q2'' := (cell_still hs2 _).trans q2'
          have hB9 := below_still hb hs2
          have hO9 := hO.still hs2
          have hoi9 := hoi'.still hs2
          clear hb hO hoi' q1' q2' HcallE hs2
          go_wp2_with (at_builtin; refine wpList_append_wt (w := w2) rfl _ _ rfl B0 g' c' p w2.heap.size bi ci xi.length acc xi ti _ hp.out rfl rfl rfl hO9 hoi9 HneI.out rfl rfl (by omega) ?_)
          intro g3 c3 w3 ho3 hg3 hor3
          have hB3 : Below w.heap.size w w3 := hB9.grown hg3 hB9.size (by intro j hj; cases hj; exact hgn)
          have hgn3 : w.heap.size ≤ g3 := by
            rcases hor3 with h | h
            · omega
            · have := hB9.size; omega
          clear hg3 hor3 hoi9 hO9 hB9 q1'' q2''
          go_wp2
          go_roundw
          case rel => exact ⟨i + 1, p + 1, g3, c3, _, true, by omega, by go_num, by first | rfl | trivial, rfl, by show _ = _; rw [List.length_append, hp.out]; rfl, by omega, HS.out [((bi, ci, xi), ti)] true (by intro s hs; simp at hs; subst hs; exact .inl rfl) (by have := Hp2.out; simp; omega) (by simp) (by rw [Hcd.out]; exact putP_old Hxw.out (.inl rfl) Hxl.out.symm), ho3, hgn3, hB3⟩
          case measure => simp [intOf]; omega
        | false =>
          have hpi : p ≤ i := by have := Hlen.out rfl; have := hp.out; omega
          clear Hlen
          by_cases hv : 0 < wordCmp v xi
          · have HG : Hid (∀ W, (∃ n, W = wr.drewN n) → Calls Try.prog 49 #[(Value.slice (some ⟨g1, o1, none⟩) v.length c1), (Value.slice (some ⟨bi, 0, none⟩) xi.length ci)] W (Reads W (.bool true))) := fun W hs => by have := HG0.out W hs; rwa [decide_eq_true hv] at this
            have Hv := Lib.hid hv; clear hv HG0
            by_cases hz0 : z = 0
            · have Hz0 := Lib.hid hz0
              subst hz0
              go_wp2_with fail
              refine HcallE.out.mono ?_
              rintro e w2 ⟨rfl, hs2⟩
              have HcallG := Lib.hid (HG.out w2 hs2)
              have hqq := (cell_still hs2 _).trans q1'
              go_wp2_with fail
              refine HcallG.out.mono ?_
              rintro e w6 ⟨rfl, hs6⟩
              replace hs2 := still_trans hs2 hs6
              clear hs6 HcallG hqq HG
              have q1'' := (cell_still hs2 _).trans q1'
              have q2'' := (cell_still hs2 _).trans q2'
              have hB9 := below_still hb hs2
              have hO9 := hO.still hs2
              have hoi9 := hoi'.still hs2
              clear hb hO hoi' q1' q2' HcallE hs2
              go_wp2_with (at_builtin; refine wpList_append_wt (w := w6) rfl _ _ rfl B0 g' c' p w6.heap.size bi ci xi.length acc xi ti _ hp.out rfl rfl rfl hO9 hoi9 HneI.out rfl rfl (by omega) ?_)
              intro g3 c3 w3 ho3 hg3 hor3
              have hB3 : Below w.heap.size w w3 := hB9.grown hg3 hB9.size (by intro j hj; cases hj; exact hgn)
              have hgn3 : w.heap.size ≤ g3 := by
                rcases hor3 with h | h
                · omega
                · have := hB9.size; omega
              clear hg3 hor3 hoi9 hO9 hB9 q1'' q2''
              go_wp2
              go_roundw
              case rel => exact ⟨i + 1, p + 1, g3, c3, _, true, by omega, by go_num, by first | rfl | trivial, rfl, by show _ = _; rw [List.length_append, hp.out]; rfl, by omega, HS.out [((bi, ci, xi), ti)] true (by intro s hs; simp at hs; subst hs; exact .inl rfl) (by have := Hp2.out; simp; omega) (by simp) (by rw [Hcd.out]; exact putP_skip Hxw.out Hv.out Hxl.out.symm rfl), ho3, hgn3, hB3⟩
              case measure => simp [intOf]; omega
            · have Hz0 := Lib.hid hz0
              have hzb : (z != 0) = true := by rw [bne_iff_ne]; exact hz0
              go_wp2_with fail
              refine HcallE.out.mono ?_
              rintro e w2 ⟨rfl, hs2⟩
              have HcallG := Lib.hid (HG.out w2 hs2)
              have hqq := (cell_still hs2 _).trans q1'
              go_wp2_with fail
              refine HcallG.out.mono ?_
              rintro e w6 ⟨rfl, hs6⟩
              replace hs2 := still_trans hs2 hs6
              clear hs6 HcallG hqq HG
              have q1'' := (cell_still hs2 _).trans q1'
              have q2'' := (cell_still hs2 _).trans q2'
              have hB9 := below_still hb hs2
              have hO9 := hO.still hs2
              have hoi9 := hoi'.still hs2
              clear hb hO hoi' q1' q2' HcallE hs2
              go_wp2_with (at_builtin; refine wpList_clone (w := w6) rfl _ _ rfl g1 o1 _ c1 v rfl (Nat.lt_of_lt_of_le hg1 hB9.size) (Hc1.out.below hB9 hg1) rfl rfl (by omega) ?_)
              intro g3 c3 w3 ho3 hb3
              have hB3 : Below w.heap.size w w3 := hB9.trans (hb3.mono hB9.size)
              have hO3 : OwnW w3 B0 g' c' acc := hO9.below hb3
              have hne3 : ∀ s ∈ acc, s.1.1 ≠ g3 := fun s hs e => by
                have h1 := (hO9.ofMem hs).lt
                have h2 := ho3.base
                omega
              have hg3 : w.heap.size ≤ g3 := by have := ho3.base; have := hB9.size; omega
              have ho3' : Own w3 B0 g3 c3 v := ho3.mono (by have := hB9.size; omega)
              have hoi3 : Own w3 B0 bi ci xi := hoi9.below hb3 hoi9.lt
              have hgl9 : g < w6.heap.size := Nat.lt_of_lt_of_le hg hB9.size
              have q13 := (hb3.cell (p := ⟨g, i * 2, none⟩) hgl9).trans q1''
              have q23 := (hb3.cell (p := ⟨g, i * 2 + 1, none⟩) hgl9).trans q2''
              clear q1'' q2'' hoi9 hO9 hB9 hb3 hgl9 ho3
              go_wp2_with (at_builtin; refine wpList_append_wt (w := w3) rfl _ _ rfl B0 g' c' p w3.heap.size g3 c3 v.length acc v z _ hp.out rfl rfl rfl hO3 ho3' hne3 rfl rfl (by omega) ?_)
              intro g4 c4 w4 hO9 hg4 hor4
              have hB9 : Below w.heap.size w w4 := hB3.grown hg4 hB3.size (by intro j hj; cases hj; exact hgn)
              have hoi9 : Own w4 B0 bi ci xi := hoi3.grown hg4 (fun e => hO3.ne hoi3 (Option.some.inj e).symm)
              have hgn9 : w.heap.size ≤ g4 := by
                rcases hor4 with h | h
                · omega
                · have := hB3.size; omega
              have hngg : some g ≠ some g' := fun e => by cases e; omega
              have q14 := hg4.cell (a := ⟨g, i * 2, none⟩) q13 hngg
              have q24 := hg4.cell (a := ⟨g, i * 2 + 1, none⟩) q23 hngg
              have hne9 : ∀ s ∈ acc ++ [((g3, c3, v), z)], s.1.1 ≠ bi := fun s hs => by
                rcases List.mem_append.1 hs with h | h
                · exact HneI.out s h
                · simp at h; subst h; show g3 ≠ bi; omega
              have hl9 : (acc ++ [((g3, c3, v), z)]).length = p + 1 := by rw [List.length_append, hp.out]; rfl
              have Hl9 := Lib.hid hl9
              clear q13 q23 hoi3 hO3 hB3 hg4 hor4 ho3' hne3 hl9
              go_wp2_with (at_builtin; refine wpList_append_wt (w := w4) rfl _ _ rfl B0 g4 c4 (p + 1) w4.heap.size bi ci xi.length (acc ++ [((g3, c3, v), z)]) xi ti _ Hl9.out rfl rfl rfl hO9 hoi9 hne9 rfl rfl (by omega) ?_)
              intro g5 c5 w5 hO5 hg5 hor5
              have hB5 : Below w.heap.size w w5 := hB9.grown hg5 hB9.size (by intro j hj; cases hj; exact hgn9)
              have hg5n : w.heap.size ≤ g5 := by
                rcases hor5 with h | h
                · omega
                · have := hB9.size; omega
              have Hfin : Hid (P29St v z w.heap.size rs (i + 1) (acc ++ [((g3, c3, v), z), ((bi, ci, xi), ti)]) true) := by
                have := HS.out [((g3, c3, v), z), ((bi, ci, xi), ti)] true (by intro s hs; simp at hs; rcases hs with rfl | rfl; exact .inr hg3; exact .inl rfl) (by have := hp.out; simp; omega) (by simp) (by rw [Hcd.out]; exact putP_new Hxw.out Hv.out Hxl.out.symm Hz0.out)
                exact this
              go_wp2
              go_roundw
              case rel => exact ⟨i + 1, p + 1 + 1, g5, c5, _, true, by omega, by go_num, by first | rfl | trivial, rfl, by show _ = _; rw [List.length_append, hp.out]; rfl, by omega, Hfin, hO5, hg5n, hB5⟩
              case measure => simp [intOf]; omega
          · have HG : Hid (∀ W, (∃ n, W = wr.drewN n) → Calls Try.prog 49 #[(Value.slice (some ⟨g1, o1, none⟩) v.length c1), (Value.slice (some ⟨bi, 0, none⟩) xi.length ci)] W (Reads W (.bool false))) := fun W hs => by have := HG0.out W hs; rwa [decide_eq_false hv] at this
            have Hv := Lib.hid hv; clear hv HG0
            go_wp2_with fail
            refine HcallE.out.mono ?_
            rintro e w2 ⟨rfl, hs2⟩
            have HcallG := Lib.hid (HG.out w2 hs2)
            have hqq := (cell_still hs2 _).trans q1'
            go_wp2_with fail
            refine HcallG.out.mono ?_
            rintro e w6 ⟨rfl, hs6⟩
            replace hs2 := still_trans hs2 hs6
            clear hs6 HcallG hqq HG
            have q1'' := (cell_still hs2 _).trans q1'
            have q2'' := (cell_still hs2 _).trans q2'
            have hB9 := below_still hb hs2
            have hO9 := hO.still hs2
            have hoi9 := hoi'.still hs2
            clear hb hO hoi' q1' q2' HcallE hs2
            go_wp2_with (at_builtin; refine wpList_append_wt (w := w6) rfl _ _ rfl B0 g' c' p w6.heap.size bi ci xi.length acc xi ti _ hp.out rfl rfl rfl hO9 hoi9 HneI.out rfl rfl (by omega) ?_)
            intro g3 c3 w3 ho3 hg3 hor3
            have hB3 : Below w.heap.size w w3 := hB9.grown hg3 hB9.size (by intro j hj; cases hj; exact hgn)
            have hgn3 : w.heap.size ≤ g3 := by
              rcases hor3 with h | h
              · omega
              · have := hB9.size; omega
            clear hg3 hor3 hoi9 hO9 hB9 q1'' q2''
            go_wp2
            go_roundw
            case rel => exact ⟨i + 1, p + 1, g3, c3, _, false, by omega, by go_num, by first | rfl | trivial, rfl, by show _ = _; rw [List.length_append, hp.out]; rfl, by omega, HS.out [((bi, ci, xi), ti)] false (by intro s hs; simp at hs; subst hs; exact .inl rfl) (by have := Hp2.out; simp; omega) (by have := hp.out; simp; omega) (by rw [Hcd.out]; exact putP_old Hxw.out (.inr (by have := Hv.out; omega)) Hxl.out.symm), ho3, hgn3, hB3⟩
            case measure => simp [intOf]; omega
    · obtain rfl : i = rs.length := by omega
      have hfin := hst.out.fin
      rw [List.drop_length] at hfin
      cases pl with
      | true =>
        have Hfin : Hid (contW acc = putP v z (contW rs) false) := by have h2 : contW acc ++ [] = _ := hfin; rw [List.append_nil] at h2; exact h2
        clear hfin hst
        go_wp2_with fail
        go_ret
        exact GotPutW.mk' g' c' acc hp.out Hfin.out hO hgn hb
      | false =>
        by_cases hz0 : z = 0
        · subst hz0
          have Hfin : Hid (contW acc = putP v 0 (contW rs) false) := by have h2 : contW acc ++ [] = _ := hfin; rw [List.append_nil] at h2; exact h2
          clear hfin hst
          go_wp2_with fail
          go_ret
          exact GotPutW.mk' g' c' acc hp.out Hfin.out hO hgn hb
        · have Hfin : Hid (contW acc ++ [(v, z)] = putP v z (contW rs) false) := by
            have h2 : contW acc ++ (if z = 0 then [] else [(v, z)]) = _ := hfin
            rw [if_neg hz0] at h2
            exact h2
          have hzb : (z != 0) = true := by rw [bne_iff_ne]; exact hz0
          clear hfin hst
          go_wp2_with (at_builtin; refine wpList_clone (w := wr) rfl _ _ rfl g1 o1 _ c1 v rfl (Nat.lt_of_lt_of_le hg1 hb.size) (Hc1.out.below hb hg1) rfl rfl (by omega) ?_)
          intro g3 c3 w3 ho3 hb3
          have hB3 : Below w.heap.size w w3 := hb.trans (hb3.mono hb.size)
          have hO3 : OwnW w3 B0 g' c' acc := hO.below hb3
          have hne3 : ∀ s ∈ acc, s.1.1 ≠ g3 := fun s hs e => by
            have h1 := (hO.ofMem hs).lt
            have h2 := ho3.base
            omega
          have ho3' : Own w3 B0 g3 c3 v := ho3.mono (by have := hb.size; omega)
          clear hO hb ho3
          go_wp2_with (at_builtin; refine wpList_append_wt (w := w3) rfl _ _ rfl B0 g' c' p w3.heap.size g3 c3 v.length acc v z _ hp.out rfl rfl rfl hO3 ho3' hne3 rfl rfl (by omega) ?_)
          intro g4 c4 w4 hO4 hg4 hor4
          have hB4 : Below w.heap.size w w4 := hB3.grown hg4 hB3.size (by intro j hj; cases hj; exact hgn)
          have hg4n : w.heap.size ≤ g4 := by
            rcases hor4 with h | h
            · omega
            · have := hB3.size; omega
          go_wp2_with fail
          go_ret
          exact GotPutW.mk' g4 c4 (acc ++ [((g3, c3, v), z)]) (by rw [List.length_append, hp.out]; rfl) (by rw [← Hfin.out]; simp [contW]) hO4 hg4n hB4
end Go.Proofs.Ytihfbbpkgmkbcaa
