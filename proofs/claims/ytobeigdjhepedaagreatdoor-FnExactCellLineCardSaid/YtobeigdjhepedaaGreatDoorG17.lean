/- PartsOf of the program: contract. -/
import Derived.Test.YtobeigdjhepedaaGreatDoorG16
namespace Go.Proofs.YtobeigdjhepedaaGreatDoor
set_option maxRecDepth 100000
open Go.RowKit

theorem partsIG_down {tab : List (List Nat)} {t d : Nat} {r : List Bool × List (List Nat)} (h : partsIG tab (t + d) = some r) : ∃ s, partsIG tab t = some s := by
  induction d generalizing r with
  | zero => exact ⟨r, h⟩
  | succ d ih =>
    have h2 : partsIG tab (t + d + 1) = some r := h
    unfold partsIG at h2
    cases ho : partsIG tab (t + d) with
    | none => rw [ho] at h2; simp at h2
    | some out => exact ih ho
theorem partsIG_sub {tab : List (List Nat)} {t d : Nat} {fs : List Bool} {P : List (List Nat)} (h : partsIG tab (t + d) = some (fs, P)) {s : List Bool} {out : List (List Nat)} (h2 : partsIG tab t = some (s, out)) : ∀ p ∈ out, p ∈ P := by
  induction d generalizing fs P with
  | zero =>
    rw [Nat.add_zero, h2] at h
    obtain ⟨rfl, rfl⟩ := Prod.mk.inj (Option.some.inj h)
    exact fun p hp => hp
  | succ d ih =>
    have h3 : partsIG tab (t + d + 1) = some (fs, P) := h
    unfold partsIG at h3
    cases ho : partsIG tab (t + d) with
    | none => rw [ho] at h3; simp at h3
    | some r =>
      obtain ⟨s1, o1⟩ := r
      rw [ho] at h3
      simp only at h3
      have hi := ih ho
      split at h3
      · obtain ⟨rfl, rfl⟩ := Prod.mk.inj (Option.some.inj h3)
        exact hi
      · split at h3
        · simp at h3
        · obtain ⟨rfl, rfl⟩ := Prod.mk.inj (Option.some.inj h3)
          exact fun p hp => List.mem_append_left _ (hi p hp)
theorem partsIG_seen {tab : List (List Nat)} {t : Nat} {seen : List Bool} {out : List (List Nat)} (h : partsIG tab t = some (seen, out)) (hs : seen.getD t false = true) : partsIG tab (t + 1) = some (seen, out) := by
  conv => lhs; unfold partsIG
  rw [h]; simp only; rw [if_pos hs]
theorem partsIG_new {tab : List (List Nat)} {t : Nat} {seen : List Bool} {out : List (List Nat)} (h : partsIG tab t = some (seen, out)) (hs : seen.getD t false = false) {r : List Bool × List (List Nat)} (h2 : partsIG tab (t + 1) = some r) :
    ∃ fin : Bst, bfsG tab 5 0 (seen.set t true, [t]) = some fin ∧ partsIG tab (t + 1) = some (fin.1, out ++ [sortN fin.2]) := by
  have h3 := h2
  unfold partsIG at h3
  rw [h] at h3
  simp only at h3
  rw [if_neg (by rw [hs]; simp)] at h3
  cases hg : partG tab seen t with
  | none => rw [hg] at h3; simp at h3
  | some fin =>
    rw [hg] at h3
    exact ⟨fin, hg, by rw [h2, ← h3]⟩

theorem insI_intsOf (x : Nat) (l : List Nat) : insI (x : Int) (intsOf l) = intsOf (insN x l) := by
  induction l with
  | nil => rfl
  | cons y l ih =>
    have e : intsOf (y :: l) = (y : Int) :: intsOf l := rfl
    rw [e]
    unfold insI insN
    by_cases h : x < y
    · rw [if_pos (by omega), if_pos h]; rfl
    · rw [if_neg (by omega), if_neg h, ih]; rfl
theorem sortI_intsOf (l : List Nat) : sortI (intsOf l) = intsOf (sortN l) := by
  have : ∀ (l a : List Nat), (intsOf l).foldl (fun a x => insI x a) (intsOf a) = intsOf (l.foldl (fun a x => insN x a) a) := by
    intro l
    induction l with
    | nil => intro a; rfl
    | cons x l ih =>
      intro a
      have e : intsOf (x :: l) = (x : Int) :: intsOf l := rfl
      rw [e, List.foldl_cons, List.foldl_cons, insI_intsOf, ih]
  exact this l []
theorem insN_len (x : Nat) (l : List Nat) : (insN x l).length = l.length + 1 := by
  induction l with
  | nil => rfl
  | cons y l ih => unfold insN; split <;> simp [ih]
theorem sortN_len (l : List Nat) : (sortN l).length = l.length := by
  have h := sortI_len (intsOf l)
  rw [sortI_intsOf, intsOf_length, intsOf_length] at h
  exact h

theorem OwnRows.grownK {w w' : World} {B g cap k : Nat} {rs : List RowRef} (h : OwnRows w B g cap rs) (hg : w.grownBy w' (some k)) (h1 : g ≠ k) (h2 : ∀ r ∈ rs, r.1 ≠ k) : OwnRows w' B g cap rs :=
  ⟨h.1.grown hg (by intro e; cases e; exact h1 rfl), fun r hr => (h.2.1 r hr).grown hg (by intro e; cases e; exact h2 r hr rfl), h.2.2⟩
theorem OwnBs.toV {w : World} {B g cap : Nat} {bs : List Bool} (h : OwnBs w B g cap bs) : OwnV w B 4 g cap (bs.map Value.bool) := h

structure PInv (w : World) (n B gs go co : Nat) (rs : List RowRef) (seen : List Bool) (gp cp : Nat) (part : List Nat) (wi : World) : Prop where
  hs : OwnBs wi B gs n seen
  ho : OwnRows wi B go co rs
  hp : Own wi B gp cp (intsOf part)
  hd : ∀ r ∈ rs, r.1 ≠ gp
  hb : Below B w wi
section
variable {w wi w' : World} {n B gs go co gp cp : Nat} {rs : List RowRef} {seen : List Bool} {part : List Nat}
theorem PInv.size (h : PInv w n B gs go co rs seen gp cp part wi) (hB : B ≤ w.heap.size) : B ≤ wi.heap.size := Nat.le_trans hB h.hb.size
theorem PInv.below (h : PInv w n B gs go co rs seen gp cp part wi) (hB : B ≤ w.heap.size) (hb : Below wi.heap.size wi w') : PInv w n B gs go co rs seen gp cp part w' :=
  ⟨h.hs.below hb h.hs.lt, h.ho.below hb, h.hp.below hb h.hp.lt, h.hd, h.hb.trans (hb.mono (h.size hB))⟩
theorem PInv.mark (h : PInv w n B gs go co rs seen gp cp part wi) (hB : B ≤ w.heap.size) (j : Nat) : PInv w n B gs go co rs (seen.set j true) gp cp part (wi.setCell ⟨gs, j, none⟩ (.bool true)) := by
  have hset := h.hs.set j true
  have n1 : gp ≠ gs := h.hp.toV.ne h.hs.toV (by decide)
  have n2 : go ≠ gs := h.ho.1.ne h.hs.toV (by decide)
  exact ⟨hset.1, h.ho.grownK hset.2 n2 (fun r hr => (h.ho.2.1 r hr).toV.ne h.hs.toV (by decide)), h.hp.grown hset.2 (by intro e; cases e; exact n1 rfl), h.hd,
    h.hb.grown hset.2 (h.size hB) (by intro k hk; cases hk; exact h.hs.base)⟩
theorem PInv.push {g' c' : Nat} {part' : List Nat} (h : PInv w n B gs go co rs seen gp cp part wi) (hB : B ≤ w.heap.size) (hg : wi.grownBy w' (some gp)) (hp' : Own w' B g' c' (intsOf part')) (hor : g' = gp ∨ wi.heap.size < g') :
    PInv w n B gs go co rs seen g' c' part' w' := by
  have n1 : gs ≠ gp := h.hs.toV.ne h.hp.toV (by decide)
  have n2 : go ≠ gp := h.ho.1.ne h.hp.toV (by decide)
  refine ⟨h.hs.grown hg (by intro e; cases e; exact n1 rfl), h.ho.grownK hg n2 h.hd, hp', fun r hr => ?_, h.hb.grown hg (h.size hB) (by intro k hk; cases hk; exact h.hp.base)⟩
  rcases hor with e | e
  · rw [e]; exact h.hd r hr
  · have := (h.ho.2.1 r hr).lt; omega
end

set_option maxHeartbeats 8000000 in
theorem impl_PartsOf_ok (gc oc n cc : Nat) (c : List (List Int)) (P : List (List Nat)) (fs : List Bool) (w : World) (hn : c.length = n) (hC : IsC c) (hP : partsIG (nbTab c) c.length = some (fs, P)) (hgood : ∀ p ∈ P, p.length ≤ 4) (hgc : gc < w.heap.size) (hr : Rows2 w gc oc c) :
    Calls Tryz.prog 131 #[(Value.slice (some ⟨gc, oc, none⟩) n cc)] w (GotRows w (P.map intsOf)) := by
  subst hn
  have hn4 := hC.2.1
  have hb0 : Below w.heap.size w (w.alloc (.cells #[] 28)) := (by repeat (first | with_reducible exact Below.refl _ _ | with_reducible assumption | with_reducible refine below_drewN ?_ _ | with_reducible refine Below.drew ?_ | (with_reducible refine Below.alloc ?_ ?_ _; rotate_left; · first | (simp; done) | (simp; omega) | exact Below.size (by assumption) | (have hsz := Below.size (by assumption : Below _ _ _); simp at hsz ⊢; omega)) | (with_reducible refine Below.setCell ?_ ?_ _; rotate_left; · first | (simp; done) | (simp; omega))))
  have HP := Lib.hid hP; have Hgood := Lib.hid hgood
  clear hP hgood
  go_enter Tryz.func131, Tryz.ntmps131
  go_wp2_with fail
  refine (impl_IsCartan gc oc _ cc c _ rfl (by omega) (fun j hj => by have := hC.2.2.1 j hj; omega) (hr.below hb0 hgc)).mono ?_
  rintro e w1 ⟨rfl, m1, rfl⟩
  rw [decide_eq_true hC]
  have ho0 : OwnRows ((w.alloc (.cells #[] 28)).drewN m1) w.heap.size w.heap.size 0 [] := (OwnRows.empty (w := w) (Nat.le_refl _)).drewN m1
  have hb1 : Below w.heap.size w ((w.alloc (.cells #[] 28)).drewN m1) := below_drewN hb0 m1
  have hle0 : w.heap.size ≤ ((w.alloc (.cells #[] 28)).drewN m1).heap.size := by simp
  generalize ((w.alloc (.cells #[] 28)).drewN m1) = w1 at *
  go_wp2_with (at_make; refine wpList_make_bs rfl _ _ rfl w.heap.size c.length _ rfl rfl rfl (by omega) hle0 ?_)
  intro w2 hown2 hgr2
  have hb2 : Below w.heap.size w w2 := hb1.trans ((below_of_grown hgr2).mono hle0)
  have ho2 := ho0.below (below_of_grown hgr2)
  clear hgr2 hb1 ho0 hle0 hb0
  generalize w1.heap.size = gs at *
  go_wp2_with fail
  go_loopw [3, 5, 6, 7, 9, 20] (fun ov _ _ _ _ iv wr => ∃ (t g' c' n' : Nat) (rs : List RowRef) (seen : List Bool) (out : List (List Nat)), t ≤ c.length ∧ iv = .int .i64 t ∧ ov = (Value.slice (some ⟨g', 0, none⟩) n' c') ∧ Hid (rs.length = n') ∧ n' ≤ t ∧ Hid (partsIG (nbTab c) t = some (seen, out)) ∧ seen.length = c.length ∧ Hid (contents rs = out.map intsOf) ∧ OwnBs wr w.heap.size gs c.length seen ∧ OwnRows wr w.heap.size g' c' rs ∧ Below w.heap.size w wr) (fun _ _ _ _ _ iv _ => c.length - (intOf iv).toNat)
  case atStart => exact ⟨0, w.heap.size, 0, 0, [], List.replicate c.length false, [], Nat.zero_le _, rfl, rfl, rfl, Nat.le_refl _, by show _ = _; simp [partsIG, nbTab_length], by simp, rfl, hown2, ho2, hb2⟩
  case round =>
    obtain ⟨t, g', c', n', rs, seen, out, ht, rfl, rfl, hrs, hnt, hout, hsl, hcont, hos, ho, hb⟩ := hrel
    by_cases hlt : t < c.length
    · have hltI : (t : Int) < (c.length : Int) := by omega
      have qs := hos.cell t (by omega)
      have fs0 := hos.frozen t
      cases hse : seen.getD t false with
      | true =>
        have hstep := Lib.hid (partsIG_seen hout.out hse)
        rw [hse] at qs
        clear hse
        go_wp2
        go_roundw
        case rel => exact ⟨t + 1, g', c', n', rs, seen, out, by omega, by go_num, rfl, hrs, by omega, hstep.out, hsl, hcont, hos, ho, hb⟩
        case measure => simp [intOf]; omega
      | false =>
        obtain ⟨r1, hr1⟩ : ∃ r, partsIG (nbTab c) (t + 1) = some r := partsIG_down (d := c.length - (t + 1)) (by rw [show t + 1 + (c.length - (t + 1)) = c.length by omega]; exact HP.out)
        obtain ⟨fin, hfin, hstep⟩ := partsIG_new hout.out hse hr1
        have Hfin := Lib.hid hfin; have Hstep := Lib.hid hstep
        rw [hse] at qs
        have hm1 : PInv w c.length w.heap.size gs g' c' rs (seen.set t true) ((wr.setCell ⟨gs, t, none⟩ (.bool true)).heap.size) 1 [t] ((wr.setCell ⟨gs, t, none⟩ (.bool true)).alloc (.cells #[.int .i64 (t : Int)] 3)) := by
          have hset := hos.set t true
          have n2 : g' ≠ gs := ho.1.ne hos.toV (by decide)
          have hr1 := ho.grownK hset.2 n2 (fun r hr => (ho.2.1 r hr).toV.ne hos.toV (by decide))
          have hbx := hb.grown hset.2 hb.size (by intro k hk; cases hk; exact hos.base)
          exact ⟨hset.1.alloc _, hr1.below (by repeat (first | with_reducible exact Below.refl _ _ | with_reducible assumption | with_reducible refine below_drewN ?_ _ | with_reducible refine Below.drew ?_ | (with_reducible refine Below.alloc ?_ ?_ _; rotate_left; · first | (simp; done) | (simp; omega) | exact Below.size (by assumption) | (have hsz := Below.size (by assumption : Below _ _ _); simp at hsz ⊢; omega)) | (with_reducible refine Below.setCell ?_ ?_ _; rotate_left; · first | (simp; done) | (simp; omega)))), Own.new (w := wr.setCell ⟨gs, t, none⟩ (.bool true)) (t : Int) hbx.size, fun r hr => by have := (hr1.2.1 r hr).lt; omega, hbx.alloc hbx.size _⟩
        have hsz : (wr.setCell ⟨gs, t, none⟩ (.bool true)).heap.size = wr.heap.size := by simp
        rw [hsz] at hm1
        have Hm1 := Lib.hid hm1
        clear hfin hstep hr1 hse hm1 hsz
        have hsl1 : (seen.set t true).length = c.length := by simpa using hsl
        have hstart : BOk c.length 1 (seen.set t true, [t]) := ⟨hsl1, by intro x hx; simp at hx; omega, by simp⟩
        generalize seen.set t true = seen1 at *
        clear hos ho hb hsl hsl1
        obtain ⟨Bw, hBw⟩ : ∃ b, b = w.heap.size := ⟨_, rfl⟩
        rw [← hBw] at Hm1
        have HBw := Lib.hid hBw; clear hBw
        go_wp2
        go_loopw [6, 7, 9] (fun qv kv _ wi => ∃ (f k gq cq m : Nat) (s : Bst), f + k = 5 ∧ kv = .int .i64 k ∧ qv = (Value.slice (some ⟨gq, 0, none⟩) m cq) ∧ Hid (s.2.length = m) ∧ Hid (bfsG (nbTab c) f k s = some fin) ∧ BOk c.length (1 + 4 * k) s ∧ PInv w c.length Bw gs g' c' rs s.1 gq cq s.2 wi) (fun _ kv _ _ => 6 - (intOf kv).toNat)
        case atStart => exact ⟨5, 0, wr.heap.size, 1, 1, (seen1, [t]), rfl, rfl, rfl, rfl, Hfin.out, hstart, Hm1.out⟩
        case round =>
          obtain ⟨f, k, gq, cq, m, s, hfk, rfl, rfl, hsl, hbf, hok, hI⟩ := hrel
          have hoq := hI.hp
          have hBw : Bw ≤ w.heap.size := by rw [HBw.out]; exact Nat.le_refl _
          have hbW : Below w.heap.size w wr := by have := hI.hb; rw [HBw.out] at this; exact this
          by_cases hlt : k < m
          · obtain ⟨f', rfl, hbf'⟩ := bfsG_go hbf.out (by rw [hsl.out]; exact hlt)
            have hltI2 : (k : Int) < (m : Int) := by omega
            have hx : s.2.getD k 0 < c.length := hok.2.1 _ (by have := hsl.out; rw [show s.2.getD k 0 = s.2[k]'(by omega) by simp [List.getD, show k < s.2.length by omega]]; exact List.getElem_mem _)
            rw [tab_at hx] at hbf'
            have qk := hoq.cell k (by rw [intsOf_length, hsl.out]; exact hlt)
            rw [intsOf_getD _ _ (by rw [hsl.out]; exact hlt)] at qk
            generalize s.2.getD k 0 = x at *
            have hlen := nbL_len c x
            have hmem : Hid (∀ j ∈ nbL c x, j < c.length) := fun j hj => nbL_lt hj
            have hnb := impl_NeighboursOf_ok gc oc _ cc x c wr rfl hC hx (by have := hbW.size; omega) (hr.below hbW hgc)
            have Hbf := Lib.hid hbf'
            generalize nbL c x = L at *
            generalize hLl : L.length = ll at *
            have HLl := Lib.hid hLl
            clear hbf' hLl hbf hx
            go_wp2_with fail
            refine hnb.mono ?_
            rintro e w2 ⟨gl, cl, rfl, hol, hb2⟩
            have hlw := hol.base
            rw [intsOf_length, HLl.out]
            have hgq := hoq.lt
            have hgsl := hI.hs.lt
            have hI2 := hI.below hBw hb2
            have hgl1 : gl ≠ gs := by omega
            have hgl2 : gl ≠ gq := by omega
            have hlB := hol.mono (B' := Bw) (Nat.le_trans (hI.size hBw) (Nat.le_refl _))
            clear hb2 hnb hol hlw qk hoq hgq hgsl hI hbW
            go_wp2_with fail
            clear hlt hltI2
            go_loopw [6, 9, 45] (fun qv _ nv wi => ∃ (u gq cq m : Nat) (s' : Bst), u ≤ ll ∧ nv = .int .i64 u ∧ qv = (Value.slice (some ⟨gq, 0, none⟩) m cq) ∧ Hid (s' = visitAll s (L.take u)) ∧ Hid (s'.2.length = m) ∧ BOk c.length (1 + 4 * k + u) s' ∧ PInv w c.length Bw gs g' c' rs s'.1 gq cq s'.2 wi ∧ gl ≠ gq ∧ Own wi Bw gl cl (intsOf L)) (fun _ _ nv _ => 6 - (intOf nv).toNat)
            case atStart => exact ⟨0, gq, cq, m, s, Nat.zero_le _, rfl, rfl, rfl, hsl, hok, hI2, hgl2, hlB⟩
            case round =>
              obtain ⟨u, gq, cq, m, s', hu, rfl, rfl, hs', hsl, hok, hI, hgl, hlB⟩ := hrel
              have hm4 : m ≤ 1 + 4 * k + u := by have := hok.2.2; have := hsl.out; omega
              by_cases hlt : u < ll
              · have hltI3 : (u : Int) < (ll : Int) := by omega
                have hv := visit_succ s L u (by rw [HLl.out]; exact hlt)
                rw [← hs'.out] at hv
                have hj : L.getD u 0 < c.length := hmem.out _ (by have := HLl.out; rw [show L.getD u 0 = L[u]'(by omega) by simp [List.getD, show u < L.length by omega]]; exact List.getElem_mem _)
                have ql := hlB.cell u (by rw [intsOf_length, HLl.out]; exact hlt)
                rw [intsOf_getD _ _ (by rw [HLl.out]; exact hlt)] at ql
                generalize L.getD u 0 = j at *
                have qs := hI.hs.cell j (by rw [hok.1]; exact hj)
                have fs := hI.hs.frozen j
                have hjI : (j : Int) < (c.length : Int) := by omega
                have hok' := hok.visit hj
                have Hok' := Lib.hid hok'
                cases hb : s'.1.getD j false with
                | true =>
                  rw [visitOne_seen hb] at hv Hok'
                  have Hv := Lib.hid hv
                  rw [hb] at qs
                  clear hv hok'
                  go_wp2
                  go_roundw
                  case rel => exact ⟨u + 1, gq, cq, m, s', by omega, by go_num, rfl, Hv.out.symm, hsl, Hok'.out, hI, hgl, hlB⟩
                  case measure => simp [intOf]; omega
                | false =>
                  rw [visitOne_new hb] at hv Hok'
                  have Hv := Lib.hid hv
                  rw [hb] at qs
                  have hset := Lib.hid (hI.mark hBw j)
                  have hsz : (wr.setCell ⟨gs, j, none⟩ (.bool true)).heap.size = wr.heap.size := by simp
                  have Hsz := Lib.hid hsz
                  clear hv hok' hsz
                  go_wp2_with (at_builtin; refine wpList_append_int_n (w := wr.setCell ⟨gs, j, none⟩ (.bool true)) rfl _ _ rfl Bw gq cq m (intsOf s'.2) (j : Int) (by rw [intsOf_length]; exact hsl.out) hset.out.hp rfl (by rw [Hsz.out]; rfl) (by omega) ?_)
                  intro g4 c4 w4 ho4 hg4 hor
                  have hgls := hlB.lt
                  rw [← intsOf_push] at ho4
                  have hI4 := hset.out.push hBw hg4 ho4 (by rw [Hsz.out]; exact hor)
                  have hlB4 : Own w4 Bw gl cl (intsOf L) := (hlB.grown (hI.hs.set j true).2 (by intro e; cases e; exact hgl1 rfl)).grown hg4 (by intro e; cases e; exact hgl rfl)
                  have hor' : gl ≠ g4 := by
                    rcases hor with e | e
                    · rw [e]; exact hgl
                    · omega
                  clear ho4 hor hgls hset
                  go_wp2
                  go_roundw
                  case rel => exact ⟨u + 1, g4, c4, m + 1, _, by omega, by go_num, rfl, Hv.out.symm, by show _ = _; rw [List.length_append, hsl.out]; rfl, Hok'.out, hI4, hor', hlB4⟩
                  case measure => simp [intOf]; omega
              · obtain rfl : u = ll := by omega
                have ht : L.take u = L := List.take_of_length_le (by rw [HLl.out]; exact Nat.le_refl _)
                rw [ht] at hs'
                go_wp2
                go_roundw
                case rel => exact ⟨f', k + 1, gq, cq, m, s', by omega, by go_num, rfl, hsl, by rw [hs'.out]; exact Hbf.out, hok.weak (by omega), hI⟩
                case measure => simp [intOf]; omega
          · have hfin := bfsG_end hbf.out (by rw [hsl.out]; exact hlt)
            have hmkI : (m : Int) ≤ (k : Int) := by omega
            have hm12 : m ≤ 12 := by
              have h1 : sortN fin.2 ∈ P := partsIG_sub (d := c.length - (t + 1)) (by rw [show t + 1 + (c.length - (t + 1)) = c.length by omega]; exact HP.out) Hstep.out _ (by simp)
              have h2 := Hgood.out _ h1
              rw [sortN_len, hfin, hsl.out] at h2
              omega
            have hsrt := srt_Sort Bw gq cq m (intsOf s.2) wr (by rw [intsOf_length]; exact hsl.out) hm12 hoq
            rw [sortI_intsOf] at hsrt
            have hsrtl : (sortN s.2).length = m := by rw [sortN_len, hsl.out]
            have Hsrtl := Lib.hid hsrtl
            have hok1 := hok.1
            rw [hfin] at Hstep
            have hI' := hI
            clear hbf hoq hfin Hfin hlt hok hsrtl
            go_wp2_with fail
            refine hsrt.mono ?_
            rintro e w2 ⟨rfl, ho2, hg2⟩
            have hI2 := hI'.push hBw hg2 ho2 (.inl rfl)
            have hrow : rowVal (gq, cq, intsOf (sortN s.2)) = (Value.slice (some ⟨gq, 0, none⟩) m cq) := by unfold rowVal; rw [intsOf_length, Hsrtl.out]
            have Hrow := Lib.hid hrow
            clear hsrt hI hI' hrow hg2 hbW
            go_wp2_with (at_builtin; refine wpList_append_row rfl _ _ rfl Bw g' c' n' w2.heap.size rs (gq, cq, intsOf (sortN s.2)) _ hrs.out (by rw [Hrow.out]) rfl hI2.ho hI2.hp hI2.hd rfl rfl (by omega) ?_)
            intro g4 c4 w4 ho4 hg4 _
            go_wp2
            go_roundw
            case rel =>
              have n1 : gs ≠ g' := hI2.hs.toV.ne hI2.ho.1 (by decide)
              have hs4 := hI2.hs.grown hg4 (by intro e; cases e; exact n1 rfl)
              have hb4 := hI2.hb.grown hg4 (hI2.size hBw) (by intro j hj; cases hj; exact hI2.ho.base)
              rw [HBw.out] at hs4 ho4 hb4
              exact ⟨t + 1, g4, c4, n' + 1, _, s.1, _, by omega, by go_num, rfl, by show _ = _; rw [List.length_append, hrs.out]; rfl, by omega, Hstep.out, hok1, by show _ = _; rw [contents_push, hcont.out, List.map_append]; rfl, hs4, ho4, hb4⟩
            case measure => simp [intOf]; omega
    · obtain rfl : t = c.length := by omega
      have hPo : (fs, P) = (seen, out) := Option.some.inj (HP.out.symm.trans hout.out)
      obtain ⟨rfl, rfl⟩ := Prod.mk.inj hPo
      clear hPo
      go_wp2_with fail
      go_ret
      have hl : rs.length = (P.map intsOf).length := by rw [← hcont.out]; simp [contents]
      obtain rfl : n' = (P.map intsOf).length := by rw [← hl, hrs.out]
      exact ⟨g', c', rs, rfl, hcont.out, ho, hb⟩
set_option maxHeartbeats 1000000 in
theorem impl_IsConnected_ok (gc oc n cc : Nat) (c : List (List Int)) (P : List (List Nat)) (fs : List Bool) (w : World) (hn : c.length = n) (hC : IsC c) (hP : partsIG (nbTab c) c.length = some (fs, P)) (hgood : ∀ p ∈ P, p.length ≤ 4) (hgc : gc < w.heap.size) (hr : Rows2 w gc oc c) :
    Calls Tryz.prog 157 #[(Value.slice (some ⟨gc, oc, none⟩) n cc)] w (Gives w (.bool (P.length == 1))) := by
  go_enter Tryz.func157, Tryz.ntmps157
  go_wp2_with fail
  refine (impl_PartsOf_ok gc oc n cc c P fs w hn hC hP hgood hgc hr).mono ?_
  rintro e w1 ⟨g1, c1, rs1, rfl, hc1, ho1, hb1⟩
  go_wp2_with fail
  go_ret
  refine ⟨ret_bool ?_, hb1⟩
  by_cases h : P.length = 1
  · rw [h]; rfl
  · have h1 : (P.length == 1) = false := by simpa using h
    have h2 : ((P.length : Int) == 1) = false := by simp; omega
    rw [h1]; exact h2
end Go.Proofs.YtobeigdjhepedaaGreatDoor
