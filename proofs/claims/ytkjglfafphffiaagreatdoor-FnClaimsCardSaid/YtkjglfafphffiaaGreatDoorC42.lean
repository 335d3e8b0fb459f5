/- Clm TopQ FmtI -/
import Derived.Test.YtkjglfafphffiaaGreatDoorC39
import Derived.Test.YtkjglfafphffiaaGreatDoorC33
import Derived.Test.YtkjglfafphffiaaGreatDoorC40
import Derived.Test.YtkjglfafphffiaaGreatDoorC41
import Derived.Test.YtkjglfafphffiaaGreatDoorC36
import Derived.Test.YtkjglfafphffiaaGreatDoorC27
import Derived.Test.YtkjglfafphffiaaGreatDoorC06
namespace Go.Proofs.YtkjglfafphffiaaGreatDoor
set_option maxRecDepth 100000
open Go.RowKit Game
theorem seqA_ok {c : List (List Int)} {a : List Int} (h : isWordB c a = true) : seqA c a = seqL c a := if_pos h
theorem red_made {c : List (List Int)} {a : List Int} (hw : isWordB c a = true) (h : redW c a = true) : redB c a (seqA c a) = true := by
  unfold redB
  rw [seqA_ok hw, red_diff h]
  simp
theorem red_true {c : List (List Int)} {a : List Int} {R : List (List Int)} (hw : isWordB c a = true) (h : redB c a R = true) : redW c a = true := by
  unfold redB at h
  rw [Bool.and_eq_true] at h
  have e := of_decide_eq_true h.1
  rw [← e] at h
  exact diff_red (wordOk_of hw) h.2
theorem path_red {c : List (List Int)} {a b : List Int} (h : (pathA c a b).isSome = true) : redW c a = true ∧ redW c b = true ∧ bpR c a b = some ((pathA c a b).getD []) := by
  unfold pathA at h ⊢
  by_cases ha : redW c a = true
  · by_cases hb : redW c b = true
    · rw [if_pos ha, if_pos hb] at h ⊢
      obtain ⟨p, hp⟩ := Option.isSome_iff_exists.1 h
      exact ⟨ha, hb, by rw [hp]; rfl⟩
    · rw [if_pos ha, if_neg hb] at h; cases h
  · rw [if_neg ha] at h; cases h
theorem eq_made {c : List (List Int)} {a b : List Int} (hw : isWordB c a = true) (h : (pathA c a b).isSome = true) : eqB c a b ((pathA c a b).getD []) = true := by
  have h1 := bpR_led (path_red h).2.2
  unfold eqB
  rw [applyB_true hw, h1]
  simp
theorem eq_true' {c : List (List Int)} {a b ps : List Int} (hw : isWordB c a = true) (h : eqB c a b ps = true) : imI c a = imI c b := by
  unfold eqB at h
  rw [applyB_true hw, Bool.and_eq_true] at h
  obtain ⟨y, hy⟩ := Option.isSome_iff_exists.1 h.1
  have e := of_decide_eq_true h.2
  rw [hy] at e
  have e : y = b := e
  rw [← e]
  exact (applyA_img (wordOk_of hw) hy).2.symm
theorem take_asc {n : Nat} {ps : List Int} (h1 : ∀ p ∈ ps, 0 ≤ p ∧ p < (n : Int)) (h2 : ps.Pairwise (· < ·)) : takeB n ps = true := takeB_yes fun k hk => by
  have e : ps.getD k 0 = ps[k] := by simp [List.getD, hk]
  refine ⟨by rw [e]; exact (h1 _ (List.getElem_mem hk)).1, by rw [e]; exact (h1 _ (List.getElem_mem hk)).2, fun h0 => ?_⟩
  have hk1 : k - 1 < ps.length := by omega
  have e1 : ps.getD (k - 1) 0 = ps[k - 1] := by simp [List.getD, hk1]
  rw [e, e1]
  exact List.pairwise_iff_getElem.1 h2 (k - 1) k hk1 hk (by omega)
theorem below_made {c : List (List Int)} {a b : List Int} (hA : WordOk c a) (hB : WordOk c b) (h : bruB c a b = true) : belowB c a b (subL c a b) = true := by
  have hU := nw_nf hA
  have hV := nw_nf hB
  have h0 : subU c (nfI c b) (nfI c a) = [] := of_decide_eq_true h
  have h1 := subP_img (nfI c b) 0 (nfI c a) hU hV.lets h0
  obtain ⟨h2, h3⟩ := subP_asc (c := c) (nfI c b) 0 (nfI c a)
  unfold belowB subL
  rw [take_asc (fun p hp => by have := h2 p hp; omega) h3, Bool.true_and]
  refine decide_eq_true ?_
  have e : takeL (nfI c b) (subP c (nfI c b) 0 (nfI c a)) = (subP c (nfI c b) 0 (nfI c a)).map fun p => (nfI c b).getD (p.toNat - 0) 0 := rfl
  rw [e, h1]
  exact (nfI_ok (hA.lets.mono (by decide))).img
theorem take_sub {ps v : List Int} (h : takeB v.length ps = true) : (takeL v ps).Sublist v := by
  have key : ∀ (v ps : List Int) (q : Nat), (∀ p ∈ ps, (q : Int) ≤ p ∧ p < ((q + v.length : Nat) : Int)) → ps.Pairwise (· < ·) → (ps.map fun p => v.getD (p.toNat - q) 0).Sublist v := by
    intro v
    induction v with
    | nil =>
      intro ps q h1 _
      cases ps with
      | nil => exact List.Sublist.refl _
      | cons p ps => have := h1 p (by simp); simp at this; omega
    | cons x v ih =>
      intro ps q h1 h2
      have hshift : ∀ ps : List Int, (∀ p ∈ ps, ((q + 1 : Nat) : Int) ≤ p) → (ps.map fun p => (x :: v).getD (p.toNat - q) 0) = ps.map fun p => v.getD (p.toNat - (q + 1)) 0 := fun ps h => List.map_congr_left fun p hp => by
        have := h p hp
        obtain ⟨m, hm⟩ : ∃ m, p.toNat - q = m + 1 := ⟨p.toNat - q - 1, by omega⟩
        rw [hm, show p.toNat - (q + 1) = m by omega]
        simp
      cases ps with
      | nil => exact List.nil_sublist _
      | cons p ps =>
        obtain ⟨h3, h4⟩ := List.pairwise_cons.1 h2
        have hp := h1 p (by simp)
        rw [List.length_cons] at h1 hp
        by_cases e : p = (q : Int)
        · subst e
          rw [List.map_cons, Int.toNat_natCast, Nat.sub_self]
          rw [hshift ps fun y hy => by have := h3 y hy; omega]
          exact (ih ps (q + 1) (fun y hy => by have := h3 y hy; have := h1 y (by simp [hy]); omega) h4).cons_cons x
        · have hall : ∀ y ∈ p :: ps, ((q + 1 : Nat) : Int) ≤ y := fun y hy => by
            rcases List.mem_cons.1 hy with g | g
            · rw [g]; omega
            · have := h3 y g; omega
          rw [hshift _ hall]
          exact (ih (p :: ps) (q + 1) (fun y hy => by have := hall y hy; have := h1 y hy; omega) h2).cons x
  have hps : ps.Pairwise (· < ·) := by
    have hs : ∀ j, j + 1 < ps.length → ps.getD j 0 < ps.getD (j + 1) 0 := fun j hj => by
      have := (takeB_at h hj).2.2 (by omega)
      rwa [Nat.add_sub_cancel] at this
    refine List.pairwise_iff_getElem.2 fun i j hi hj hij => ?_
    have : ∀ d, i + d + 1 < ps.length → ps.getD i 0 < ps.getD (i + d + 1) 0 := by
      intro d
      induction d with
      | zero => intro hd; exact hs i hd
      | succ d ih => intro hd; exact Int.lt_trans (ih (by omega)) (hs (i + d + 1) (by omega))
    have := this (j - i - 1) (by omega)
    rw [show i + (j - i - 1) + 1 = j by omega] at this
    simpa [List.getD, hi, hj] using this
  have := key v ps 0 (fun p hp => by
    obtain ⟨k, hk, rfl⟩ := List.getElem_of_mem hp
    have := takeB_at h hk
    have e : ps.getD k 0 = ps[k] := by simp [List.getD, hk]
    rw [← e]
    exact ⟨by have := this.1; omega, by have := this.2.1; omega⟩) hps
  exact this
theorem below_true {c : List (List Int)} {a b ps : List Int} (hA : WordOk c a) (hB : WordOk c b) (h : belowB c a b ps = true) : bruB c a b = true := by
  unfold belowB at h
  rw [Bool.and_eq_true] at h
  have hU := nw_nf hA
  have hV := nw_nf hB
  have e := of_decide_eq_true h.2
  have hsub := take_sub h.1
  have hL : Lets c 15 (takeL (nfI c b) ps) := takeL_lets hV.lets h.1
  refine decide_eq_true ((subU_bel _ hV.lets hU).2 ⟨(takeL (nfI c b) ps).map Int.toNat, hsub.map _, ?_⟩)
  rw [← imI_act hL (by decide), e]
  congr 1
  exact (nfI_ok (hA.lets.mono (by decide))).img.symm
theorem not_made {c : List (List Int)} {a b : List Int} (hA : WordOk c a) (hB : WordOk c b) (h : bruB c a b = false) : notB c a b (dropL c (nfI c b) (nfI c a)) = true :=
  nb_made _ _ (nw_nf hB) (nw_nf hA) (of_decide_eq_false h)
theorem not_true' {c : List (List Int)} {a b ps : List Int} (hA : WordOk c a) (hB : WordOk c b) (h : notB c a b ps = true) : bruB c a b = false := by
  refine decide_eq_false fun h0 => ?_
  have := nb_sound ps _ _ (nw_nf hA) (nw_nf hB) ((subU_bel _ (nw_nf hB).lets (nw_nf hA)).1 h0)
  unfold notB at h
  rw [h] at this
  cases this
theorem made_fine {kd : Int} {c : List (List Int)} {a b : List Int} (h : okM kd c a b = true) : checkL (makeC kd c a b) = true := by
  unfold makeC
  rw [if_pos h]
  unfold okM at h
  rw [Bool.and_eq_true, Bool.and_eq_true] at h
  obtain ⟨⟨wa, wb⟩, hk⟩ := h
  have hA := wordOk_of wa
  have hB := wordOk_of wb
  show ((isWordB c a && isWordB c b) && kindB kd c a b (proofC kd c a b) (rootsC kd c a)) = true
  rw [wa, wb, Bool.true_and, Bool.true_and]
  unfold okC at hk
  unfold kindB proofC rootsC
  by_cases k1 : kd = 1
  · subst k1; exact red_made wa hk
  rw [if_neg k1] at hk ⊢
  by_cases k2 : kd = 2
  · subst k2; exact eq_made wa hk
  rw [if_neg k2] at hk ⊢
  by_cases k3 : kd = 3
  · subst k3
    have hk : bruB c a b = true := hk
    have := below_made hA hB hk
    simpa [hk] using this
  rw [if_neg k3] at hk ⊢
  by_cases k4 : kd = 4
  · subst k4
    have hk : (!bruB c a b) = true := hk
    exact not_made hA hB (by simpa using hk)
  rw [if_neg k4] at hk ⊢
  by_cases k5 : kd = 5
  · subst k5
    have hk : (!finB c) = true := hk
    obtain ⟨h1, h2⟩ := wit_made hA.isC (by simpa using hk)
    show infB c (witness c) = true
    unfold infB
    rw [h1, decide_eq_true h2]; rfl
  rw [if_neg k5] at hk ⊢
  by_cases k6 : kd = 6
  · subst k6; exact hk
  rw [if_neg k6] at hk
  cases hk
def trueL (x : ClaimD) : Prop :=
  (x.kind = 1 → redW x.cartan x.a = true) ∧ (x.kind = 2 → imI x.cartan x.a = imI x.cartan x.b) ∧ (x.kind = 3 → bruB x.cartan x.a x.b = true) ∧
  (x.kind = 4 → bruB x.cartan x.a x.b = false) ∧ (x.kind = 5 → finB x.cartan = false) ∧ (x.kind = 6 → coversB x.cartan x.a = true)
theorem fine_true {x : ClaimD} (h : checkL x = true) : (isWordB x.cartan x.a = true ∧ isWordB x.cartan x.b = true) ∧ (1 ≤ x.kind ∧ x.kind ≤ 6) ∧ trueL x := by
  obtain ⟨kd, c, a, b, ps, R⟩ := x
  have h : ((isWordB c a && isWordB c b) && kindB kd c a b ps R) = true := h
  rw [Bool.and_eq_true, Bool.and_eq_true] at h
  obtain ⟨⟨wa, wb⟩, hk⟩ := h
  have hA := wordOk_of wa
  have hB := wordOk_of wb
  refine ⟨⟨wa, wb⟩, ?_, fun e => ?_, fun e => ?_, fun e => ?_, fun e => ?_, fun e => ?_, fun e => ?_⟩
  · show 1 ≤ kd ∧ kd ≤ 6
    unfold kindB at hk
    (repeat' split at hk) <;> first | omega | cases hk
  all_goals
    obtain rfl : kd = _ := e
  · exact red_true wa hk
  · exact eq_true' wa hk
  · exact below_true hA hB hk
  · exact not_true' hA hB hk
  · have hk : infB c ps = true := hk
    unfold infB at hk
    rw [Bool.and_eq_true] at hk
    exact not_fin hA.isC hk.1 (of_decide_eq_true hk.2)
  · exact hk
end Go.Proofs.YtkjglfafphffiaaGreatDoor
namespace Go.Proofs.YtkjglfafphffiaaGreatDoor
set_option maxRecDepth 100000
open Go.RowKit Game
theorem MayI.ints {w : World} {B E g n c : Nat} {v : Value} {xs : List Int} (h : MayI w B E v xs) (hv : v = (Value.slice (some ⟨g, 0, none⟩) n c)) : IntsV w v xs := by
  rcases h with ⟨rfl, -⟩ | ⟨g', cap, rfl, ho, -⟩
  · cases hv
  · exact ⟨g', 0, xs.length, cap, rfl, rfl, ho.capLe, ho.lt, ho.cells⟩
theorem MayR.rows {w : World} {B E g n c : Nat} {v : Value} {rows : List (List Int)} (h : MayR w B E v rows) (hv : v = (Value.slice (some ⟨g, 0, none⟩) n c)) : RowsV w v rows := by
  rcases h with ⟨rfl, -⟩ | ⟨g', cap, rfl, rs, hc, ho, -, -⟩
  · cases hv
  · refine ⟨g', 0, rows.length, cap, rfl, rfl, by rw [← hc, contents_length]; exact ho.capLe, ho.lt, ?_⟩
    rw [← hc]; exact ho.rows2
theorem HeldC.toN {w : World} {B E : Nat} {v : Value} {x : ClaimD} (h : HeldC w B E v x) (hn : NN x.kind v) (h1 : 1 ≤ x.kind) : ClaimN w v x := by
  obtain ⟨v1, v2, v3, v4, v5, E1, E2, E3, E4, rfl, -, a1, a2, a3, a4, a5⟩ := h
  obtain ⟨u0, u1, u2, u3, u4, u5, e, q1, q4, q5, -⟩ := hn
  obtain ⟨p4, c4, e4⟩ := a4.shape
  obtain ⟨p5, c5, e5⟩ := a5.shape
  simp only [Value.agg.injEq, Array.mk.injEq, List.cons.injEq, and_true] at e
  obtain ⟨rfl, rfl, rfl, rfl, rfl, rfl⟩ := e
  obtain ⟨⟨_, _, _, f1⟩, ⟨_, _, _, f2⟩, ⟨_, _, _, f3⟩⟩ := q1 h1
  refine ⟨v1, v2, v3, p4, x.proof.length, c4, p5, x.roots.length, c5, by rw [e4, e5], a1.rows f1, a2.ints f2, a3.ints f3, fun h2 h5 => ?_, fun h6 => ?_⟩
  · obtain ⟨_, _, _, f4⟩ := q4 h2 h5
    rw [← e4]; exact a4.ints f4
  · obtain ⟨_, _, _, f5⟩ := q5 h6
    rw [← e5]; exact a5.rows f5
theorem ClSmall.toFew {x : ClaimD} (h : ClSmall x) : claimFew x := ⟨⟨h.c.1, h.c.2.1⟩, h.a, h.b, h.p, ⟨h.r.1, h.r.2.1⟩⟩
theorem dropL_mem {c : List (List Int)} : ∀ (V U : List Int), ∀ x ∈ dropL c V U, x ∈ V
  | [], U => by simp [dropL]
  | s :: V, U => fun x hx => by
    unfold dropL at hx
    split at hx
    · rcases List.mem_cons.1 hx with h | h
      · rw [h]; exact List.mem_cons_self ..
      · exact List.mem_cons_of_mem _ (dropL_mem V _ x h)
    · cases hx
theorem setL16 : ∀ q, q < 16 → ∀ x ∈ setL q, (0 : Int) ≤ x ∧ x < 4 := by decide +kernel
theorem witness_in (c : List (List Int)) : ∀ x ∈ witness c, (0 : Int) ≤ x ∧ x < 4 := by
  intro x hx
  unfold witness at hx
  split at hx
  · rename_i hC
    have h4 : 2 ^ c.length ≤ 16 := Nat.le_trans (Nat.pow_le_pow_right (by decide) hC.2.1) (by decide)
    rcases witFrom_get (c := c) (2 ^ c.length - 1) 1 with h | ⟨q, h1, h2, -, h⟩
    · rw [h] at hx; cases hx
    · rw [h] at hx
      exact setL16 q (by omega) x hx
  · cases hx
theorem make_in {kd : Int} {c : List (List Int)} {a b : List Int} : ∀ x ∈ (makeC kd c a b).proof, (0 : Int) ≤ x ∧ x < 1000 := by
  unfold makeC
  split
  · rename_i hok
    have hw := (okM_true hok).1
    rw [Bool.and_eq_true] at hw
    have hA := wordOk_of hw.1
    have hB := wordOk_of hw.2
    show ∀ x ∈ proofC kd c a b, _
    intro x hx
    unfold proofC at hx
    split at hx
    · cases hp : pathA c a b with
      | none => rw [hp] at hx; cases hx
      | some p =>
        rw [hp] at hx
        have := (pathA_len hA hp).2 x hx
        omega
    · split at hx
      · split at hx
        · have h1 := (subP_asc (c := c) (nfI c b) 0 (nfI c a)).1 x hx
          have h2 := (nw_nf hB).lets.few
          omega
        · cases hx
      · split at hx
        · have h1 := (nw_nf hB).lets.mem x (dropL_mem _ _ x hx)
          have h2 := hB.isC.2.1
          omega
        · split at hx
          · have := witness_in c x hx
            omega
          · cases hx
  · intro x hx
    cases hx
theorem make_kind {kd : Int} {c : List (List Int)} {a b : List Int} (h : okM kd c a b = true) : (makeC kd c a b).kind = kd ∧ 1 ≤ kd := by
  unfold makeC
  rw [if_pos h]
  exact ⟨rfl, (okM_true h).2.1⟩
theorem rwL_few {c : List (List Int)} {u : List Int} (hU : WordOk c u) : (rwL c u).length ≤ 120 ∧ ∀ x ∈ rwL c u, x.length ≤ 15 := by
  unfold rwL
  split
  · split
    · rename_i h
      refine ⟨h, fun x hx => ?_⟩
      exact ((mem_wordsL (nw_nf hU) x).1 hx).1.few
    · exact ⟨by simp, fun x hx => by cases hx⟩
  · exact ⟨by simp, fun x hx => by cases hx⟩
end Go.Proofs.YtkjglfafphffiaaGreatDoor
namespace Go.Proofs.YtkjglfafphffiaaGreatDoor
set_option maxRecDepth 100000
open Go.RowKit
open Go.Lib (join decDigits itoa)
set_option maxRecDepth 100000
def strsI (l : List Int) : List ByteArray := l.map fun x => ⟨(itoa x).toArray⟩
theorem strsI_length (l : List Int) : (strsI l).length = l.length := by simp [strsI]
theorem strsI_take {l : List Int} {k : Nat} (hk : k < l.length) : strsI (l.take (k + 1)) = strsI (l.take k) ++ [⟨(itoa (l.getD k 0)).toArray⟩] := by
  unfold strsI
  rw [List.take_succ_eq_append_getElem hk, List.map_append]
  congr 1
  simp [List.getD, hk]
theorem strsI_data (l : List Int) : (strsI l).map (·.data.toList) = itoas l := by simp [strsI, itoas]
set_option maxHeartbeats 1000000 in
theorem impl_joinInts_any (g o n cp : Nat) (l : List Int) (w : World) (hn : l.length = n) (hl : l.length ≤ 1048576) (h64 : I64s l) (hg : g < w.heap.size) (hc : Cells w g o l) (ht : Tab w) :
    Calls Tryz.prog 124 #[(Value.slice (some ⟨g, o, none⟩) n cp), .string ⟨#[44]⟩] w (Gives w (.string ⟨(weightL l).toArray⟩)) := by
  subst hn
  have H64 := Lib.hid h64; have Ht := Lib.hid ht
  have Hsep := Lib.hid (show (join (itoas l) [44]).length ≤ 140737488355328 from by have := weightL_len h64; unfold weightL at this; omega)
  clear h64 ht
  generalize hS : (⟨(weightL l).toArray⟩ : ByteArray) = S
  have HS : Hid ((⟨(join (itoas l) [44]).toArray⟩ : ByteArray) = S) := Lib.hid hS
  clear hS
  go_enter Tryz.func124, Tryz.ntmps124
  go_wp2
  go_loopw [5, 11] (fun ov kv wr => ∃ (k g2 c2 : Nat), k ≤ l.length ∧ kv = .int .i64 k ∧ ov = (Value.slice (some ⟨g2, 0, none⟩) k c2) ∧ OwnStrs wr w.heap.size g2 c2 (strsI (l.take k)) ∧ Below w.heap.size w wr) (fun _ kv _ => l.length - (intOf kv).toNat)
  case atStart => exact ⟨0, _, 0, Nat.zero_le _, rfl, rfl, OwnStrs.empty (Nat.le_refl _), (Below.refl _ _).alloc (Nat.le_refl _) _⟩
  case round =>
    obtain ⟨k, g2, c2, hk, rfl, rfl, ho, hb⟩ := hrel
    by_cases hlt : k < l.length
    · have q1 := (hb.cell (p := ⟨g, o + k, none⟩) hg).trans (hc k hlt)
      have hts := strsI_take hlt
      have hcall := impl_FormatInt_any (l.getD k 0) (H64.out.at hlt) wr (Ht.out.below hb)
      have htl : (strsI (l.take k)).length = k := by rw [strsI_length, List.length_take]; omega
      generalize (⟨(itoa (l.getD k 0)).toArray⟩ : ByteArray) = s at *
      generalize l.getD k 0 = i at *
      have Hcall := Lib.hid hcall; have Hts := Lib.hid hts; have Htl := Lib.hid htl
      clear hcall hts htl
      go_wp2_with fail
      refine Hcall.out.mono ?_
      rintro e w1 ⟨rfl, hb1⟩
      have ho1 : OwnStrs w1 w.heap.size g2 c2 (strsI (l.take k)) := OwnK.below ho hb1 (OwnK.lt ho)
      have hb1' := hb.trans (hb1.mono hb.size)
      clear ho hb hb1
      go_wp2_with (at_builtin; refine wpList_append_str rfl _ _ rfl w.heap.size g2 c2 k w1.heap.size (strsI (l.take k)) s w1 _ Htl.out rfl rfl ho1 rfl rfl (by omega) ?_)
      intro g3 c3 w3 ho3 hg3 hor3
      have hb3 : Below w.heap.size w w3 := hb1'.grown hg3 hb1'.size (by intro t ht; cases ht; exact OwnK.base ho1)
      rw [← Hts.out] at ho3
      clear ho1 hg3
      go_wp2_with fail
      go_roundw
      case rel => exact ⟨k + 1, g3, c3, by omega, by go_num, rfl, ho3, hb3⟩
      case measure => simp [intOf]; omega
    · obtain rfl : k = l.length := by omega
      rw [List.take_length] at ho
      have hj := Any.strings_Join Tryz.lays156 Tryz.Builder_Extra_156 g2 0 c2 (strsI l) ⟨#[44]⟩ wr ho.cell (OwnK.lt ho) (by rw [strsI_length]; omega) ho.capLe (by rw [strsI_data]; exact Hsep.out)
      change Calls Tryz.prog 69 _ _ _ at hj
      have e44 : (⟨#[44]⟩ : ByteArray).data.toList = [44] := rfl
      rw [strsI_data, strsI_length, e44, HS.out] at hj
      have Hj := Lib.hid hj
      clear hj ho
      go_wp2_with fail
      refine Hj.out.mono ?_
      rintro e w4 ⟨rfl, hb4⟩
      have hB := hb.trans (hb4.mono hb.size)
      go_wp2_with fail
      go_ret
      exact ⟨rfl, hB⟩
theorem impl_FormatWeight_any (g o n cp : Nat) (l : List Int) (w : World) (hn : l.length = n) (hl : l.length ≤ 1048576) (h64 : I64s l) (hg : g < w.heap.size) (hc : Cells w g o l) (ht : Tab w) :
    Calls Tryz.prog 70 #[(Value.slice (some ⟨g, o, none⟩) n cp)] w (Gives w (.string ⟨(weightL l).toArray⟩)) := by
  have hcall := impl_joinInts_any g o n cp l w hn hl h64 hg hc ht
  have Hcall := Lib.hid hcall
  generalize (⟨(weightL l).toArray⟩ : ByteArray) = s at *
  clear hcall hc ht
  go_enter Tryz.func70, Tryz.ntmps70
  go_wp2_with fail
  refine Hcall.out.mono ?_
  rintro e w1 ⟨rfl, hb1⟩
  go_wp2_with fail
  go_ret
  exact ⟨rfl, hb1⟩
def strsW (l : List (List Int)) : List ByteArray := l.map fun r => ⟨(weightL r).toArray⟩
theorem strsW_length (l : List (List Int)) : (strsW l).length = l.length := by simp [strsW]
theorem strsW_take {l : List (List Int)} {k : Nat} (hk : k < l.length) : strsW (l.take (k + 1)) = strsW (l.take k) ++ [⟨(weightL (l.getD k [])).toArray⟩] := by
  unfold strsW
  rw [List.take_succ_eq_append_getElem hk, List.map_append]
  congr 1
  simp [List.getD, hk]
theorem strsW_data (l : List (List Int)) : (strsW l).map (·.data.toList) = l.map weightL := by simp [strsW]
set_option maxHeartbeats 1000000 in
theorem impl_FormatRoots_any (g o n cp : Nat) (l : List (List Int)) (w : World) (hn : l.length = n) (hl : l.length ≤ 1048576) (hrw : ∀ k, k < l.length → (l.getD k []).length ≤ 1048576) (h64 : ∀ r ∈ l, I64s r) (hg : g < w.heap.size) (hr : Rows2 w g o l) (ht : Tab w) :
    Calls Tryz.prog 71 #[(Value.slice (some ⟨g, o, none⟩) n cp)] w (Gives w (.string ⟨(rootsL l).toArray⟩)) := by
  subst hn
  by_cases hz : l.length = 0
  · have e : rootsL l = [110, 111, 110, 101] := by unfold rootsL; rw [if_pos hz]
    rw [e, hz]
    go_enter Tryz.func71, Tryz.ntmps71
    go_wp2
    go_ret
    exact ⟨rfl, Below.refl _ _⟩
  have e : rootsL l = rowsL [32] l := by unfold rootsL; rw [if_neg hz]
  rw [e]
  have hz2 : ((l.length : Int) == 0) = false := by simpa using hz
  have H64 := Lib.hid h64; have Ht := Lib.hid ht; have Hr := Lib.hid hr
  have Hrow := Lib.hid hrw
  have hcl := cellsOf_le (m := 1048576) (fun r hr => by obtain ⟨i, hi, rfl⟩ := List.mem_iff_getElem.1 hr; have := hrw i hi; simpa [List.getD, hi] using this)
  have Hsep := Lib.hid (show (join (l.map weightL) [32]).length ≤ 140737488355328 from by have := rowsL_len (sep := [32]) h64; unfold rowsL at this; simp only [List.length_cons, List.length_nil] at this; omega)
  clear h64 ht hr e hrw hcl
  generalize hS : (⟨(rowsL [32] l).toArray⟩ : ByteArray) = S
  have HS : Hid ((⟨(join (l.map weightL) [32]).toArray⟩ : ByteArray) = S) := Lib.hid hS
  clear hS
  go_enter Tryz.func71, Tryz.ntmps71
  go_wp2
  clear hz hz2
  go_loopw [3, 12] (fun ov kv wr => ∃ (k g2 c2 : Nat), k ≤ l.length ∧ kv = .int .i64 k ∧ ov = (Value.slice (some ⟨g2, 0, none⟩) k c2) ∧ OwnStrs wr w.heap.size g2 c2 (strsW (l.take k)) ∧ Below w.heap.size w wr) (fun _ kv _ => l.length - (intOf kv).toNat)
  case atStart => exact ⟨0, _, 0, Nat.zero_le _, rfl, rfl, OwnStrs.empty (Nat.le_refl _), (Below.refl _ _).alloc (Nat.le_refl _) _⟩
  case round =>
    obtain ⟨k, g2, c2, hk, rfl, rfl, ho, hb⟩ := hrel
    by_cases hlt : k < l.length
    · obtain ⟨gj, oj, cj, q1, q2, q3, q4⟩ := (Hr.out.below hb hg) k hlt
      have hts := strsW_take hlt
      have hcall := impl_FormatWeight_any gj oj _ cj (l.getD k []) wr rfl (Hrow.out k hlt) (rows_i64 H64.out hlt) q3 q4 (Ht.out.below hb)
      have htl : (strsW (l.take k)).length = k := by rw [strsW_length, List.length_take]; omega
      generalize (⟨(weightL (l.getD k [])).toArray⟩ : ByteArray) = s at *
      have Hcall := Lib.hid hcall; have Hts := Lib.hid hts; have Htl := Lib.hid htl
      clear hcall hts htl q4
      generalize (l.getD k []).length = rl at Hcall q1 q2
      go_wp2_with fail
      refine Hcall.out.mono ?_
      rintro e w1 ⟨rfl, hb1⟩
      have ho1 : OwnStrs w1 w.heap.size g2 c2 (strsW (l.take k)) := OwnK.below ho hb1 (OwnK.lt ho)
      have hb1' := hb.trans (hb1.mono hb.size)
      clear ho hb hb1
      go_wp2_with (at_builtin; refine wpList_append_str rfl _ _ rfl w.heap.size g2 c2 k w1.heap.size (strsW (l.take k)) s w1 _ Htl.out rfl rfl ho1 rfl rfl (by omega) ?_)
      intro g3 c3 w3 ho3 hg3 hor3
      have hb3 : Below w.heap.size w w3 := hb1'.grown hg3 hb1'.size (by intro t ht; cases ht; exact OwnK.base ho1)
      rw [← Hts.out] at ho3
      clear ho1 hg3
      go_wp2_with fail
      go_roundw
      case rel => exact ⟨k + 1, g3, c3, by omega, by go_num, rfl, ho3, hb3⟩
      case measure => simp [intOf]; omega
    · obtain rfl : k = l.length := by omega
      rw [List.take_length] at ho
      have hj := Any.strings_Join Tryz.lays156 Tryz.Builder_Extra_156 g2 0 c2 (strsW l) ⟨#[32]⟩ wr ho.cell (OwnK.lt ho) (by rw [strsW_length]; omega) ho.capLe (by rw [strsW_data]; exact Hsep.out)
      change Calls Tryz.prog 69 _ _ _ at hj
      have e44 : (⟨#[32]⟩ : ByteArray).data.toList = [32] := rfl
      rw [strsW_data, strsW_length, e44, HS.out] at hj
      have Hj := Lib.hid hj
      clear hj ho
      go_wp2_with fail
      refine Hj.out.mono ?_
      rintro e w4 ⟨rfl, hb4⟩
      have hB := hb.trans (hb4.mono hb.size)
      go_wp2_with fail
      go_ret
      exact ⟨rfl, hB⟩
set_option maxHeartbeats 1000000 in
theorem impl_FormatCartan_any (g o n cp : Nat) (l : List (List Int)) (w : World) (hn : l.length = n) (hx : l.length ≤ 1099511627776) (hrl : ∀ j, j < l.length → (l.getD j []).length ≤ 1099511627776) (hg : g < w.heap.size) (hr : Rows2 w g o l) (ht : Tab w) :
    Calls Tryz.prog 66 #[(Value.slice (some ⟨g, o, none⟩) n cp)] w (Gives w (.string ⟨(cartanL l).toArray⟩)) := by
  subst hn
  have Hc := Lib.hid (impl_IsCartan g o _ cp l w rfl hx hrl hr)
  by_cases hC : IsC l
  · rw [decide_eq_true hC] at Hc
    have e : cartanL l = rowsL [59] l := by unfold cartanL; rw [if_pos hC]
    rw [e]
    have h64 := isC_i64 hC
    have hcl := isC_cells hC
    have h4 := hC.2.1
    have H64 := Lib.hid h64; have Ht := Lib.hid ht; have Hr := Lib.hid hr
    have Hrow : Hid (∀ k, k < l.length → (l.getD k []).length ≤ 1048576) := Lib.hid fun k hk => by
      have h1 := cellsOf_take_succ hk
      have h2 := cellsOf_take_le l (k + 1)
      omega
    have Hsep := Lib.hid (show (join (l.map weightL) [59]).length ≤ 140737488355328 from by have := rowsL_len (sep := [59]) h64; unfold rowsL at this; simp only [List.length_cons, List.length_nil] at this; omega)
    clear h64 ht hr e hrl hcl
    generalize hS : (⟨(rowsL [59] l).toArray⟩ : ByteArray) = S
    have HS : Hid ((⟨(join (l.map weightL) [59]).toArray⟩ : ByteArray) = S) := Lib.hid hS
    clear hS
    go_enter Tryz.func66, Tryz.ntmps66
    go_wp2_with fail
    refine Hc.out.mono ?_
    rintro e w0 ⟨rfl, m0, rfl⟩
    go_wp2
    go_loopw [3, 12] (fun ov kv wr => ∃ (k g2 c2 : Nat), k ≤ l.length ∧ kv = .int .i64 k ∧ ov = (Value.slice (some ⟨g2, 0, none⟩) k c2) ∧ OwnStrs wr w.heap.size g2 c2 (strsW (l.take k)) ∧ Below w.heap.size w wr) (fun _ kv _ => l.length - (intOf kv).toNat)
    case atStart => exact ⟨0, _, 0, Nat.zero_le _, rfl, rfl, OwnStrs.empty (Nat.le_refl _), (below_drewN' w m0).alloc (Nat.le_refl _) _⟩
    case round =>
      obtain ⟨k, g2, c2, hk, rfl, rfl, ho, hb⟩ := hrel
      by_cases hlt : k < l.length
      · obtain ⟨gj, oj, cj, q1, q2, q3, q4⟩ := (Hr.out.below hb hg) k hlt
        have hts := strsW_take hlt
        have hcall := impl_joinInts_any gj oj _ cj (l.getD k []) wr rfl (Hrow.out k hlt) (rows_i64 H64.out hlt) q3 q4 (Ht.out.below hb)
        have htl : (strsW (l.take k)).length = k := by rw [strsW_length, List.length_take]; omega
        generalize (⟨(weightL (l.getD k [])).toArray⟩ : ByteArray) = s at *
        have Hcall := Lib.hid hcall; have Hts := Lib.hid hts; have Htl := Lib.hid htl
        clear hcall hts htl q4
        generalize (l.getD k []).length = rl at Hcall q1 q2
        go_wp2_with fail
        refine Hcall.out.mono ?_
        rintro e w1 ⟨rfl, hb1⟩
        have ho1 : OwnStrs w1 w.heap.size g2 c2 (strsW (l.take k)) := OwnK.below ho hb1 (OwnK.lt ho)
        have hb1' := hb.trans (hb1.mono hb.size)
        clear ho hb hb1
        go_wp2_with (at_builtin; refine wpList_append_str rfl _ _ rfl w.heap.size g2 c2 k w1.heap.size (strsW (l.take k)) s w1 _ Htl.out rfl rfl ho1 rfl rfl (by omega) ?_)
        intro g3 c3 w3 ho3 hg3 hor3
        have hb3 : Below w.heap.size w w3 := hb1'.grown hg3 hb1'.size (by intro t ht; cases ht; exact OwnK.base ho1)
        rw [← Hts.out] at ho3
        clear ho1 hg3
        go_wp2_with fail
        go_roundw
        case rel => exact ⟨k + 1, g3, c3, by omega, by go_num, rfl, ho3, hb3⟩
        case measure => simp [intOf]; omega
      · obtain rfl : k = l.length := by omega
        rw [List.take_length] at ho
        have hj := Any.strings_Join Tryz.lays156 Tryz.Builder_Extra_156 g2 0 c2 (strsW l) ⟨#[59]⟩ wr ho.cell (OwnK.lt ho) (by rw [strsW_length]; omega) ho.capLe (by rw [strsW_data]; exact Hsep.out)
        change Calls Tryz.prog 69 _ _ _ at hj
        have e44 : (⟨#[59]⟩ : ByteArray).data.toList = [59] := rfl
        rw [strsW_data, strsW_length, e44, HS.out] at hj
        have Hj := Lib.hid hj
        clear hj ho
        go_wp2_with fail
        refine Hj.out.mono ?_
        rintro e w4 ⟨rfl, hb4⟩
        have hB := hb.trans (hb4.mono hb.size)
        go_wp2_with fail
        go_ret
        exact ⟨rfl, hB⟩
  · rw [decide_eq_false hC] at Hc
    have e : cartanL l = [] := by unfold cartanL; rw [if_neg hC]
    rw [e]
    go_enter Tryz.func66, Tryz.ntmps66
    go_wp2_with fail
    refine Hc.out.mono ?_
    rintro e w0 ⟨rfl, m0, rfl⟩
    go_wp2
    go_ret
    exact ⟨rfl, below_drewN' w m0⟩
end Go.Proofs.YtkjglfafphffiaaGreatDoor
