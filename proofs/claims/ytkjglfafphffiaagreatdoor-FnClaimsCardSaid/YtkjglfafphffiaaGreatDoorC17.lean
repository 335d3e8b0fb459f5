/- Nfw Bond Concat -/
import Derived.Test.YtkjglfafphffiaaGreatDoorC15
import Derived.Test.YtkjglfafphffiaaGreatDoorC16
import Derived.Test.YtkjglfafphffiaaGreatDoorC02
import Derived.Test.YtkjglfafphffiaaGreatDoorC03
import Derived.BigQuiet
import Derived.Test.YtkjglfafphffiaaGreatDoorC00
import Derived.Lib.AppendZeros
namespace Go.Proofs.YtkjglfafphffiaaGreatDoor
set_option maxRecDepth 100000
open Go.RowKit
namespace Game
variable {A : Mat} {n : Nat}
theorem play_parity (hC : Car A n) {d : Vec} (hd : ∀ i, i < n → 0 < d i) : ∀ (w : List Nat), (∀ i ∈ w, i < n) → ∀ l, Plays A n l (act A w d) d → l.length % 2 = w.length % 2 := by
  have hd0 : Dom n d := fun i hi => by have := hd i hi; omega
  intro w
  induction w with
  | nil =>
    intro _ l h
    have := Dom.stuck hd0 h
    rw [this]
  | cons i w ih =>
    intro hw l h
    have hi := hw i (by simp)
    obtain ⟨l0, h1, h2⟩ := word_play hC hd0 w (fun j hj => hw j (List.mem_cons_of_mem _ hj))
    have hpar := ih (fun j hj => hw j (List.mem_cons_of_mem _ hj)) l0 h1
    simp only [act, List.length_cons] at h ⊢
    generalize act A w d = x at *
    rcases Int.lt_trichotomy (x i) 0 with g | g | g
    · obtain ⟨l', g1, g2, g3⟩ := h1.first hC hd0 hi g
      have := (Plays.unique hC hd0 (Plays.cons.1 g1).2.2 h).1
      omega
    · exact absurd g (h1.ne hC hd hi)
    · have hp : Plays A n (i :: l0) (s A i x) d := Plays.cons.2 ⟨hi, by simp only [s, hC.two i hi]; omega, by rw [s_s hC hi]; exact h1⟩
      have := (Plays.unique hC hd0 hp h).1
      rw [List.length_cons] at this
      omega
end Game
open Game
structure Lets (c : List (List Int)) (m : Nat) (v : List Int) : Prop where
  isC : IsC c
  few : v.length ≤ m
  inr : ∀ k, k < v.length → 0 ≤ v.getD k 0 ∧ v.getD k 0 < (c.length : Int)
theorem WordOk.lets {c : List (List Int)} {v : List Int} (h : WordOk c v) : Lets c 15 v := ⟨h.isC, h.few, h.inr⟩
theorem Lets.word {c : List (List Int)} {v : List Int} (h : Lets c 15 v) : WordOk c v := ⟨h.isC, h.few, h.inr⟩
theorem Lets.mono {c : List (List Int)} {m m' : Nat} {v : List Int} (h : Lets c m v) (hm : m ≤ m') : Lets c m' v := ⟨h.isC, Nat.le_trans h.few hm, h.inr⟩
theorem Lets.mem {c : List (List Int)} {m : Nat} {v : List Int} (h : Lets c m v) : ∀ x ∈ v, 0 ≤ x ∧ x < (c.length : Int) := fun x hx => by
  obtain ⟨k, hk, rfl⟩ := List.mem_iff_getElem.1 hx
  have := h.inr k hk
  simpa [List.getD, hk] using this
theorem lets_of {c : List (List Int)} {m : Nat} {v : List Int} (hC : IsC c) (hl : v.length ≤ m) (h : ∀ x ∈ v, 0 ≤ x ∧ x < (c.length : Int)) : Lets c m v :=
  ⟨hC, hl, fun k hk => h _ (by simp [List.getD, hk])⟩
theorem Lets.app {c : List (List Int)} {m k : Nat} {v u : List Int} (h : Lets c m v) (h' : Lets c k u) : Lets c (m + k) (v ++ u) :=
  lets_of h.isC (by rw [List.length_append]; have := h.few; have := h'.few; omega) fun x hx => by
    rcases List.mem_append.1 hx with g | g
    · exact h.mem x g
    · exact h'.mem x g
theorem Lets.one {c : List (List Int)} (hC : IsC c) {i : Int} (h0 : 0 ≤ i) (h1 : i < (c.length : Int)) : Lets c 1 [i] :=
  lets_of hC (by simp) fun x hx => by rw [List.mem_singleton] at hx; subst hx; exact ⟨h0, h1⟩
theorem Lets.nats {c : List (List Int)} {m : Nat} {v : List Int} (h : Lets c m v) : intsOf (v.map Int.toNat) = v := by
  unfold intsOf
  rw [List.map_map]
  have : ∀ x ∈ v, ((fun (t : Nat) => (t : Int)) ∘ Int.toNat) x = id x := fun x hx => by
    have := (h.mem x hx).1
    simp; omega
  rw [List.map_congr_left this, List.map_id]
theorem Lets.nats_lt {c : List (List Int)} {m : Nat} {v : List Int} (h : Lets c m v) : ∀ i ∈ v.map Int.toNat, i < c.length := fun i hi => by
  obtain ⟨x, hx, rfl⟩ := List.mem_map.1 hi
  have := h.mem x hx
  omega
abbrev imI (c : List (List Int)) (v : List Int) : List Int := actW c v (onesL c.length)
theorem imI_length (c : List (List Int)) (v : List Int) : (imI c v).length = c.length := by unfold imI; rw [actW_length]; exact onesL_len _
theorem imI_cons (c : List (List Int)) (i : Nat) (v : List Int) : imI c ((i : Int) :: v) = refl c i (imI c v) := rfl
structure NfI (c : List (List Int)) (v y : List Int) : Prop where
  norm : normG c 30 (imI c v) = some y
  len : y.length ≤ v.length
  par : y.length % 2 = v.length % 2
  lets : Lets c v.length y
  img : imI c y = imI c v
theorem nfI_ex {c : List (List Int)} {v : List Int} (h : Lets c 30 v) : ∃ W, NfOf c (v.map Int.toNat) W ∧ nfI c v = intsOf W := by
  obtain ⟨W, hW⟩ := nf_of h.isC h.nats_lt (by rw [List.length_map]; exact h.few)
  refine ⟨W, hW, ?_⟩
  have := nfI_of hW
  rwa [h.nats] at this
theorem nfI_ok {c : List (List Int)} {v : List Int} (h : Lets c 30 v) : NfI c v (nfI c v) := by
  obtain ⟨W, hW, e⟩ := nfI_ex h
  have hn := hW.norm
  rw [h.nats] at hn
  have hi := hW.img
  rw [h.nats] at hi
  have hl := hW.len
  rw [List.length_map] at hl
  have hwl : (intsOf W).length = W.length := by simp [intsOf]
  rw [e]
  refine ⟨hn, by rw [hwl]; exact hl, ?_, lets_of h.isC (by rw [hwl]; exact hl) fun x hx => ?_, hi⟩
  · rw [hwl]
    have := play_parity (car_of h.isC) (ones_pos c.length) _ h.nats_lt W hW.plays
    rwa [List.length_map] at this
  · unfold intsOf at hx
    obtain ⟨i, hi', rfl⟩ := List.mem_map.1 hx
    have := hW.lt i hi'
    omega
theorem nfI_self {c : List (List Int)} {v : List Int} (h : Lets c 30 v) : nfI c (nfI c v) = nfI c v := by
  have h1 := nfI_ok h
  unfold nfI
  rw [show actW c ((normG c 30 (actW c v (onesL c.length))).getD []) (onesL c.length) = actW c v (onesL c.length) from h1.img]
theorem nfI_img {c : List (List Int)} {v u : List Int} (h : imI c v = imI c u) : nfI c v = nfI c u := by
  unfold nfI
  rw [show actW c v (onesL c.length) = actW c u (onesL c.length) from h]
theorem imI_ne {c : List (List Int)} {v : List Int} (h : Lets c 30 v) {i : Nat} (hi : i < c.length) : (imI c v).getD i 0 ≠ 0 :=
  normG_nz (nfI_ok h).norm i (by rw [imI_length]; exact hi)
theorem nfI_down {c : List (List Int)} {v : List Int} (h : Lets c 29 v) {i : Nat} (hi : i < c.length) (hneg : (imI c v).getD i 0 < 0) : (nfI c ((i : Int) :: v)).length + 1 = (nfI c v).length := by
  have hC := h.isC
  have hA := car_of hC
  have h30 := h.mono (show 29 ≤ 30 by omega)
  have h2 : Lets c 30 ((i : Int) :: v) := lets_of hC (by rw [List.length_cons]; have := h.few; omega) fun x hx => by
    rcases List.mem_cons.1 hx with g | g
    · subst g; omega
    · exact h.mem x g
  obtain ⟨W, hW, e⟩ := nfI_ex h30
  obtain ⟨X, hX, e2⟩ := nfI_ex h2
  have hwl : (intsOf W).length = W.length := by simp [intsOf]
  have hxl : (intsOf X).length = X.length := by simp [intsOf]
  rw [e, e2, hwl, hxl]
  have hv : toV (imI c v) = act (ent c) (v.map Int.toNat) (toV (onesL c.length)) := by
    have := toV_image hC h.nats_lt (by rw [List.length_map]; have := h.few; omega)
    rwa [h.nats] at this
  have hneg' : act (ent c) (v.map Int.toNat) (toV (onesL c.length)) i < 0 := by rw [← hv]; exact hneg
  obtain ⟨l', g1, g2, -⟩ := hW.plays.first hA (ones_dom _) hi hneg'
  have hp := (Plays.cons.1 g1).2.2
  have hm : (((i : Int) :: v).map Int.toNat) = i :: v.map Int.toNat := by rw [List.map_cons, Int.toNat_natCast]
  have hXp := hX.plays
  rw [hm] at hXp
  have := (Plays.unique hA (ones_dom _) hp hXp).1
  omega
def starS (c : List (List Int)) (x : List Int) (i : Int) : List Int := if (nfI c (x ++ [i])).length < x.length then x else nfI c (x ++ [i])
def starTo (c : List (List Int)) (v : List Int) : Nat → List Int
  | 0 => []
  | k + 1 => starS c (starTo c v k) (v.getD k 0)
def starL (c : List (List Int)) (v : List Int) : List Int := starTo c v v.length
theorem starS_lets {c : List (List Int)} {m : Nat} {x : List Int} {i : Int} (h : Lets c m x) (hm : m ≤ 29) (h0 : 0 ≤ i) (h1 : i < (c.length : Int)) : Lets c (m + 1) (starS c x i) := by
  have hx := h.app (Lets.one h.isC h0 h1)
  unfold starS
  split
  · exact h.mono (by omega)
  · exact ((nfI_ok (hx.mono (by omega))).lets).mono (by have := hx.few; omega)
theorem starTo_lets {c : List (List Int)} {v : List Int} (h : WordOk c v) : ∀ k, k ≤ v.length → Lets c k (starTo c v k)
  | 0, _ => ⟨h.isC, Nat.le_refl _, fun k hk => by simp [starTo] at hk⟩
  | k + 1, hk => by
    have h1 := starTo_lets h k (by omega)
    have h2 := h.inr k (by omega)
    exact starS_lets h1 (by have := h.few; omega) h2.1 h2.2
theorem star_ne {c : List (List Int)} {m : Nat} {x : List Int} {i : Int} (h : Lets c m x) (hm : m ≤ 29) (h0 : 0 ≤ i) (h1 : i < (c.length : Int)) : (nfI c (x ++ [i])).length ≠ x.length := by
  have hx := (h.app (Lets.one h.isC h0 h1)).mono (show m + 1 ≤ 30 by omega)
  have := (nfI_ok hx).par
  rw [List.length_append, List.length_singleton] at this
  omega
end Go.Proofs.YtkjglfafphffiaaGreatDoor
namespace Go.Proofs.YtkjglfafphffiaaGreatDoor
set_option maxRecDepth 100000
open Go.RowKit
def bondP (p : Int) : Int := if p = 0 then 2 else if p = 1 then 3 else if p = 2 then 4 else if p = 3 then 6 else 0
def bondL (c : List (List Int)) (i j : Nat) : Int := if i = j then 1 else bondP (ent c i j * ent c j i)
theorem bondP_le (p : Int) : 0 ≤ bondP p ∧ bondP p ≤ 6 := by unfold bondP; (repeat' split) <;> omega
theorem bondL_le (c : List (List Int)) (i j : Nat) : 0 ≤ bondL c i j ∧ bondL c i j ≤ 6 := by
  unfold bondL; split
  · omega
  · exact bondP_le _
theorem ent_bd {c : List (List Int)} (hC : IsC c) {i j : Nat} (hi : i < c.length) (hj : j < c.length) : -3 ≤ ent c i j ∧ ent c i j ≤ 2 := by
  have := hC.2.2.2 i hi j hj
  unfold EntOk at this
  split at this <;> omega
theorem ent_mul {x y : Int} (hx : -3 ≤ x ∧ x ≤ 2) (hy : -3 ≤ y ∧ y ≤ 2) : -9223372036854775808 ≤ x * y ∧ x * y ≤ 9223372036854775807 := by
  have hx' : x = -3 ∨ x = -2 ∨ x = -1 ∨ x = 0 ∨ x = 1 ∨ x = 2 := by omega
  rcases hx' with rfl | rfl | rfl | rfl | rfl | rfl <;> omega
set_option maxHeartbeats 1000000 in
theorem impl_BondOf_any (gc oc n cc i j : Nat) (c : List (List Int)) (w : World) (hn : c.length = n) (hC : IsC c) (hi : i < c.length) (hj : j < c.length) (hr : Rows2 w gc oc c) :
    Calls Tryz.prog 156 #[(Value.slice (some ⟨gc, oc, none⟩) n cc), .int .i64 i, .int .i64 j] w (Reads w (.int .i64 (bondL c i j))) := by
  subst hn
  have hcl := hC.2.2.1
  have hn4 := hC.2.1
  have hcall := impl_IsCartan gc oc _ cc c w rfl (by omega) (fun j hj => by have := hcl j hj; omega) hr
  rw [decide_eq_true hC] at hcall
  have hp1 := fun W => impl_isPoint_any gc oc c.length cc (i : Int) W
  have hp2 := fun W => impl_isPoint_any gc oc c.length cc (j : Int) W
  rw [show (decide ((0 : Int) ≤ (i : Int)) && decide ((i : Int) < (c.length : Int))) = true by simp; omega] at hp1
  rw [show (decide ((0 : Int) ≤ (j : Int)) && decide ((j : Int) < (c.length : Int))) = true by simp; omega] at hp2
  have e1 := IntWalk.i64_in _ (ent_mul (ent_bd hC hi hj) (ent_bd hC hj hi))
  have hb : bondL c i j = if i = j then 1 else bondP (ent c i j * ent c j i) := rfl
  have Hcall := Lib.hid hcall; have Hp1 := Lib.hid hp1; have Hp2 := Lib.hid hp2
  obtain ⟨gi, oi, ci, q1, q2, q3, q4⟩ := hr i hi
  obtain ⟨gj, oj, cj, r1, r2, r3, r4⟩ := hr j hj
  have hli := hcl i hi
  have hlj := hcl j hj
  have v1 := q4 j (by omega)
  have v2 := r4 i (by omega)
  rw [show (c.getD i []).getD j 0 = ent c i j from rfl] at v1
  rw [show (c.getD j []).getD i 0 = ent c j i from rfl] at v2
  rw [hli] at q1
  rw [hlj] at r1
  generalize ent c i j = x at *
  generalize ent c j i = y at *
  generalize bondL c i j = z at *
  have Hb := Lib.hid hb
  clear hcall hp1 hp2 hr hC hcl hli hlj q4 r4 hb
  go_enter Tryz.func156, Tryz.ntmps156
  go_wp2_with fail
  refine Hcall.out.mono ?_
  rintro e w1 ⟨rfl, m1, rfl⟩
  go_wp2_with fail
  refine (Hp1.out _).mono ?_
  rintro e w2 ⟨rfl, m2, rfl⟩
  go_wp2_with fail
  refine (Hp2.out _).mono ?_
  rintro e w3 ⟨rfl, m3, rfl⟩
  by_cases hij : i = j
  · subst hij
    go_wp2_with fail
    go_ret
    exact ⟨ret_int (by rw [Hb.out]; simp), (by first | exact ⟨_, rfl⟩ | exact ⟨0, rfl⟩ | exact still2 _ _ _ | exact still3 _ _ _ _)⟩
  · have hijI : ((i : Int) == (j : Int)) = false := by rw [beq_eq_false_iff_ne]; omega
    go_wp2_with fail
    go_quiet (fail)
    by_cases h0 : x * y = 0
    · have b0 : (x * y == 0) = true := by rw [h0]; rfl
      have Hz := Lib.hid (show z = 2 by rw [Hb.out, if_neg hij, h0]; rfl)
      go_wp2_with fail
      go_ret
      exact ⟨ret_int Hz.out.symm, (by first | exact ⟨_, rfl⟩ | exact ⟨0, rfl⟩ | exact still2 _ _ _ | exact still3 _ _ _ _)⟩
    have b0 : (x * y == 0) = false := by rw [beq_eq_false_iff_ne]; exact h0
    by_cases h1 : x * y = 1
    · have b1 : (x * y == 1) = true := by rw [h1]; rfl
      have Hz := Lib.hid (show z = 3 by rw [Hb.out, if_neg hij, h1]; rfl)
      go_wp2_with fail
      go_ret
      exact ⟨ret_int Hz.out.symm, (by first | exact ⟨_, rfl⟩ | exact ⟨0, rfl⟩ | exact still2 _ _ _ | exact still3 _ _ _ _)⟩
    have b1 : (x * y == 1) = false := by rw [beq_eq_false_iff_ne]; exact h1
    by_cases h2 : x * y = 2
    · have b2 : (x * y == 2) = true := by rw [h2]; rfl
      have Hz := Lib.hid (show z = 4 by rw [Hb.out, if_neg hij, h2]; rfl)
      go_wp2_with fail
      go_ret
      exact ⟨ret_int Hz.out.symm, (by first | exact ⟨_, rfl⟩ | exact ⟨0, rfl⟩ | exact still2 _ _ _ | exact still3 _ _ _ _)⟩
    have b2 : (x * y == 2) = false := by rw [beq_eq_false_iff_ne]; exact h2
    by_cases h3 : x * y = 3
    · have b3 : (x * y == 3) = true := by rw [h3]; rfl
      have Hz := Lib.hid (show z = 6 by rw [Hb.out, if_neg hij, h3]; rfl)
      go_wp2_with fail
      go_ret
      exact ⟨ret_int Hz.out.symm, (by first | exact ⟨_, rfl⟩ | exact ⟨0, rfl⟩ | exact still2 _ _ _ | exact still3 _ _ _ _)⟩
    have b3 : (x * y == 3) = false := by rw [beq_eq_false_iff_ne]; exact h3
    have Hz := Lib.hid (show z = 0 by rw [Hb.out, if_neg hij]; unfold bondP; rw [if_neg h0, if_neg h1, if_neg h2, if_neg h3])
    go_wp2_with fail
    go_ret
    exact ⟨ret_int Hz.out.symm, (by first | exact ⟨_, rfl⟩ | exact ⟨0, rfl⟩ | exact still2 _ _ _ | exact still3 _ _ _ _)⟩
set_option maxHeartbeats 1000000 in
theorem spec_BondOf_any (gc oc n cc i j : Nat) (c : List (List Int)) (w : World) (hn : c.length = n) (hC : IsC c) (hi : i < c.length) (hj : j < c.length) (hr : Rows2 w gc oc c) :
    Calls Tryz.prog 147 #[(Value.slice (some ⟨gc, oc, none⟩) n cc), .int .i64 i, .int .i64 j] w (Reads w (.int .i64 (bondL c i j))) := by
  subst hn
  have hcl := hC.2.2.1
  have hn4 := hC.2.1
  have hcall := spec_IsCartan gc oc _ cc c w rfl (by omega) (fun j hj => by have := hcl j hj; omega) hr
  rw [decide_eq_true hC] at hcall
  have hp1 := fun W => spec_l1In (i : Int) 0 ((c.length : Int) - 1) W
  have hp2 := fun W => spec_l1In (j : Int) 0 ((c.length : Int) - 1) W
  rw [show (decide ((0 : Int) ≤ (i : Int)) && decide ((i : Int) ≤ (c.length : Int) - 1)) = true by simp; omega] at hp1
  rw [show (decide ((0 : Int) ≤ (j : Int)) && decide ((j : Int) ≤ (c.length : Int) - 1)) = true by simp; omega] at hp2
  have e1 := IntWalk.i64_in _ (ent_mul (ent_bd hC hi hj) (ent_bd hC hj hi))
  have hb : bondL c i j = if i = j then 1 else bondP (ent c i j * ent c j i) := rfl
  have Hcall := Lib.hid hcall; have Hp1 := Lib.hid hp1; have Hp2 := Lib.hid hp2
  obtain ⟨gi, oi, ci, q1, q2, q3, q4⟩ := hr i hi
  obtain ⟨gj, oj, cj, r1, r2, r3, r4⟩ := hr j hj
  have hli := hcl i hi
  have hlj := hcl j hj
  have v1 := q4 j (by omega)
  have v2 := r4 i (by omega)
  rw [show (c.getD i []).getD j 0 = ent c i j from rfl] at v1
  rw [show (c.getD j []).getD i 0 = ent c j i from rfl] at v2
  rw [hli] at q1
  rw [hlj] at r1
  generalize ent c i j = x at *
  generalize ent c j i = y at *
  generalize bondL c i j = z at *
  have Hb := Lib.hid hb
  clear hcall hp1 hp2 hr hC hcl hli hlj q4 r4 hb
  go_enter Tryz.func147, Tryz.ntmps147
  go_wp2_with fail
  refine Hcall.out.mono ?_
  rintro e w1 ⟨rfl, m1, rfl⟩
  go_wp2_with fail
  refine (Hp1.out _).mono ?_
  rintro e w2 ⟨rfl, m2, rfl⟩
  go_wp2_with fail
  refine (Hp2.out _).mono ?_
  rintro e w3 ⟨rfl, m3, rfl⟩
  by_cases hij : i = j
  · subst hij
    go_wp2_with fail
    go_ret
    exact ⟨ret_int (by rw [Hb.out]; simp), (by first | exact ⟨_, rfl⟩ | exact ⟨0, rfl⟩ | exact still2 _ _ _ | exact still3 _ _ _ _)⟩
  · have hijI : ((i : Int) == (j : Int)) = false := by rw [beq_eq_false_iff_ne]; omega
    go_wp2_with fail
    go_quiet (fail)
    by_cases h0 : x * y = 0
    · have b0 : (x * y == 0) = true := by rw [h0]; rfl
      have Hz := Lib.hid (show z = 2 by rw [Hb.out, if_neg hij, h0]; rfl)
      go_wp2_with fail
      go_ret
      exact ⟨ret_int Hz.out.symm, (by first | exact ⟨_, rfl⟩ | exact ⟨0, rfl⟩ | exact still2 _ _ _ | exact still3 _ _ _ _)⟩
    have b0 : (x * y == 0) = false := by rw [beq_eq_false_iff_ne]; exact h0
    by_cases h1 : x * y = 1
    · have b1 : (x * y == 1) = true := by rw [h1]; rfl
      have Hz := Lib.hid (show z = 3 by rw [Hb.out, if_neg hij, h1]; rfl)
      go_wp2_with fail
      go_ret
      exact ⟨ret_int Hz.out.symm, (by first | exact ⟨_, rfl⟩ | exact ⟨0, rfl⟩ | exact still2 _ _ _ | exact still3 _ _ _ _)⟩
    have b1 : (x * y == 1) = false := by rw [beq_eq_false_iff_ne]; exact h1
    by_cases h2 : x * y = 2
    · have b2 : (x * y == 2) = true := by rw [h2]; rfl
      have Hz := Lib.hid (show z = 4 by rw [Hb.out, if_neg hij, h2]; rfl)
      go_wp2_with fail
      go_ret
      exact ⟨ret_int Hz.out.symm, (by first | exact ⟨_, rfl⟩ | exact ⟨0, rfl⟩ | exact still2 _ _ _ | exact still3 _ _ _ _)⟩
    have b2 : (x * y == 2) = false := by rw [beq_eq_false_iff_ne]; exact h2
    by_cases h3 : x * y = 3
    · have b3 : (x * y == 3) = true := by rw [h3]; rfl
      have Hz := Lib.hid (show z = 6 by rw [Hb.out, if_neg hij, h3]; rfl)
      go_wp2_with fail
      go_ret
      exact ⟨ret_int Hz.out.symm, (by first | exact ⟨_, rfl⟩ | exact ⟨0, rfl⟩ | exact still2 _ _ _ | exact still3 _ _ _ _)⟩
    have b3 : (x * y == 3) = false := by rw [beq_eq_false_iff_ne]; exact h3
    have Hz := Lib.hid (show z = 0 by rw [Hb.out, if_neg hij]; unfold bondP; rw [if_neg h0, if_neg h1, if_neg h2, if_neg h3])
    go_wp2_with fail
    go_ret
    exact ⟨ret_int Hz.out.symm, (by first | exact ⟨_, rfl⟩ | exact ⟨0, rfl⟩ | exact still2 _ _ _ | exact still3 _ _ _ _)⟩
def altL (i j : Int) (n : Nat) : List Int := (List.range n).map fun k => if k % 2 = 0 then i else j
theorem altL_length (i j : Int) (n : Nat) : (altL i j n).length = n := by simp [altL]
theorem altL_succ (i j : Int) (n : Nat) : altL i j (n + 1) = altL i j n ++ [if n % 2 = 0 then i else j] := by simp [altL, List.range_succ]
set_option maxHeartbeats 1000000 in
theorem impl_AlternatingWord_any (i j : Int) (m : Nat) (w : World) (hm : m ≤ 15) : Calls Tryz.prog 157 #[.int .i64 i, .int .i64 j, .int .i64 m] w (GotInts w (altL i j m)) := by
  go_enter Tryz.func157, Tryz.ntmps157
  go_wp2
  go_loopw [7, 8] (fun s kv wr => ∃ t g' c' : Nat, t ≤ m ∧ kv = .int .i64 t ∧ s = (Value.slice (some ⟨g', 0, none⟩) t c') ∧ Own wr w.heap.size g' c' (altL i j t) ∧ Below w.heap.size w wr) (fun _ kv _ => m - (intOf kv).toNat)
  case atStart => exact ⟨0, w.heap.size, 0, Nat.zero_le _, rfl, rfl, Own.empty (w := w) (Nat.le_refl _), (Below.refl _ _).alloc (Nat.le_refl _) _⟩
  case round =>
    obtain ⟨t, g', c', ht, rfl, rfl, ho, hb⟩ := hrel
    by_cases hlt : t < m
    · have hI : (t : Int) < m := by omega
      have hI2 : (t : Int) < 15 := by omega
      have hl := altL_length i j t
      by_cases hpar : t % 2 = 0
      · have hparI : ((t : Int).tmod 2 == 0) = true := by rw [Int.tmod_eq_emod_of_nonneg (by omega)]; rw [beq_iff_eq]; omega
        have e : altL i j (t + 1) = altL i j t ++ [i] := by rw [altL_succ, if_pos hpar]
        have E := Lib.hid e; clear e
        go_wp2_with (at_builtin; refine wpList_append_int_n rfl _ _ rfl w.heap.size g' c' t (altL i j t) i hl ho rfl rfl (by omega) ?_)
        intro g3 c3 w3 ho3 hg3 _
        go_wp2_with fail
        go_roundw
        case rel => exact ⟨t + 1, g3, c3, by omega, by go_num, rfl, by rw [E.out]; exact ho3, hb.grown hg3 hb.size (by intro j hj; cases hj; exact ho.base)⟩
        case measure => simp [intOf]; omega
      · have hparI : ((t : Int).tmod 2 == 0) = false := by rw [Int.tmod_eq_emod_of_nonneg (by omega)]; rw [beq_eq_false_iff_ne]; omega
        have e : altL i j (t + 1) = altL i j t ++ [j] := by rw [altL_succ, if_neg hpar]
        have E := Lib.hid e; clear e
        go_wp2_with (at_builtin; refine wpList_append_int_n rfl _ _ rfl w.heap.size g' c' t (altL i j t) j hl ho rfl rfl (by omega) ?_)
        intro g3 c3 w3 ho3 hg3 _
        go_wp2_with fail
        go_roundw
        case rel => exact ⟨t + 1, g3, c3, by omega, by go_num, rfl, by rw [E.out]; exact ho3, hb.grown hg3 hb.size (by intro j hj; cases hj; exact ho.base)⟩
        case measure => simp [intOf]; omega
    · obtain rfl : m = t := by omega
      go_wp2
      go_ret
      exact GotInts.mk' g' c' (altL_length _ _ _) ho hb
set_option maxHeartbeats 1000000 in
theorem spec_AlternatingWord_any (i j : Int) (m : Nat) (w : World) (hm : m ≤ 15) : Calls Tryz.prog 148 #[.int .i64 i, .int .i64 j, .int .i64 m] w (GotInts w (altL i j m)) := by
  go_enter Tryz.func148, Tryz.ntmps148
  go_wp2
  go_loopw [7, 8] (fun s kv wr => ∃ t g' c' : Nat, t ≤ m ∧ kv = .int .i64 t ∧ s = (Value.slice (some ⟨g', 0, none⟩) t c') ∧ Own wr w.heap.size g' c' (altL i j t) ∧ Below w.heap.size w wr) (fun _ kv _ => m - (intOf kv).toNat)
  case atStart => exact ⟨0, w.heap.size, 0, Nat.zero_le _, rfl, rfl, Own.empty (w := w) (Nat.le_refl _), (Below.refl _ _).alloc (Nat.le_refl _) _⟩
  case round =>
    obtain ⟨t, g', c', ht, rfl, rfl, ho, hb⟩ := hrel
    by_cases hlt : t < m
    · have hI : (t : Int) < m := by omega
      have hI2 : (t : Int) < 15 := by omega
      have hl := altL_length i j t
      by_cases hpar : t % 2 = 0
      · have hparI : ((t : Int).tmod 2 == 0) = true := by rw [Int.tmod_eq_emod_of_nonneg (by omega)]; rw [beq_iff_eq]; omega
        have e : altL i j (t + 1) = altL i j t ++ [i] := by rw [altL_succ, if_pos hpar]
        have E := Lib.hid e; clear e
        go_wp2_with (at_builtin; refine wpList_append_int_n rfl _ _ rfl w.heap.size g' c' t (altL i j t) i hl ho rfl rfl (by omega) ?_)
        intro g3 c3 w3 ho3 hg3 _
        go_wp2_with fail
        go_roundw
        case rel => exact ⟨t + 1, g3, c3, by omega, by go_num, rfl, by rw [E.out]; exact ho3, hb.grown hg3 hb.size (by intro j hj; cases hj; exact ho.base)⟩
        case measure => simp [intOf]; omega
      · have hparI : ((t : Int).tmod 2 == 0) = false := by rw [Int.tmod_eq_emod_of_nonneg (by omega)]; rw [beq_eq_false_iff_ne]; omega
        have e : altL i j (t + 1) = altL i j t ++ [j] := by rw [altL_succ, if_neg hpar]
        have E := Lib.hid e; clear e
        go_wp2_with (at_builtin; refine wpList_append_int_n rfl _ _ rfl w.heap.size g' c' t (altL i j t) j hl ho rfl rfl (by omega) ?_)
        intro g3 c3 w3 ho3 hg3 _
        go_wp2_with fail
        go_roundw
        case rel => exact ⟨t + 1, g3, c3, by omega, by go_num, rfl, by rw [E.out]; exact ho3, hb.grown hg3 hb.size (by intro j hj; cases hj; exact ho.base)⟩
        case measure => simp [intOf]; omega
    · obtain rfl : m = t := by omega
      go_wp2
      go_ret
      exact GotInts.mk' g' c' (altL_length _ _ _) ho hb
end Go.Proofs.YtkjglfafphffiaaGreatDoor
namespace Go.Proofs.YtkjglfafphffiaaGreatDoor
set_option maxRecDepth 100000
open Go.RowKit
theorem zeros_own (w : World) (B cap : Nat) (Z : Array Value) (hB : B ≤ w.heap.size) (hZ : Z.size = cap) (hcap : cap ≤ maxLen) : Own (w.drew.alloc (.cells Z 3)) B w.heap.size cap [] :=
  ⟨rfl, .inr ⟨w.heap.size, cap, Z, rfl, hB, heap_alloc_new w.drew _, Nat.zero_le _, hcap, by rw [hZ, Nat.mul_one], by simp⟩⟩
theorem wpList_append_ints_n {w : World} {ops : Array Oper} {rest : List Oper} {o : Oper} {a : Act} {Q : Exit → Act → World → Prop} (hgd : o.guard = none) (s x : Operand)
    (ho : o.op = .call { callee := .builtin .append, args := #[s, x], argTypes := #[25, 25] })
    (B g cap n1 : Nat) (xs : List Int) (hn1 : xs.length = n1) (hown : Own w B g cap xs) (g2 o2 n2 c2 : Nat) (ys : List Int) (hn2 : ys.length = n2) (hc : Cells w g2 o2 ys)
    (hs : a.eval s = (Value.slice (some ⟨g, 0, none⟩) n1 cap)) (hx : a.eval x = (Value.slice (some ⟨g2, o2, none⟩) n2 c2)) (hlen : n1 + n2 ≤ 1099511627776)
    (h : ∀ g' cap' w', Own w' B g' cap' (xs ++ ys) → w.grownBy w' (some g) → (g' = g ∨ g' = w.heap.size) → wpList Tryz.prog ops Q rest (a.put o.dst (Value.slice (some ⟨g', 0, none⟩) (n1 + n2) cap')) w') :
    wpList Tryz.prog ops Q (o :: rest) a w := by
  subst hn1; subst hn2
  exact wpList_append_ints hgd s x ho B g cap xs hown g2 o2 c2 ys hc hs hx hlen h
set_option maxHeartbeats 1000000 in
theorem slices_Grow_nil (n : Nat) (w : World) (h1 : 1 ≤ n) (hn : n ≤ 1048576) :
    Calls Tryz.prog 167 #[.slice none 0 0, .int .i64 n] w (fun e w' => ∃ g cap, e = .returned (Value.slice (some ⟨g, 0, none⟩) 0 cap) ∧ Own w' w.heap.size g cap [] ∧ Below w.heap.size w w') := by
  obtain ⟨i0, hi, hz0, hz1, hz2⟩ := info_parts info3
  have happ := Lib.run_append_nil_zeros (P := Tryz.prog) w 25 3 25 3 i0 (.int .i64 0) .i64 .i64 Tryz.underlying25 Tryz.underlying3 hi hz0 n (by omega) (by omega) (by omega) (by rw [hz2]; omega)
  have hge : n ≤ grownCap w n 0 3 := grownCap_ge w _ 0 _
  have hle : grownCap w n 0 3 ≤ maxLen := grownCap_le_maxLen w _ 0 _ (by unfold maxLen; omega)
  generalize grownCap w n 0 3 = cap at *
  have hZs : (Builtin.zeroCells (Value.int .i64 0).cells n ++ Builtin.zeroCells (Value.int .i64 0).cells (cap - n)).size = cap := by simp [size_zeroCells, Value.cells]; omega
  generalize Builtin.zeroCells (Value.int .i64 0).cells n ++ Builtin.zeroCells (Value.int .i64 0).cells (cap - n) = Z at *
  have hown := zeros_own w w.heap.size cap Z (Nat.le_refl _) hZs hle
  have hb : Below w.heap.size w (w.drew.alloc (.cells Z 3)) := (Below.drew (Below.refl _ _)).alloc (Nat.le_refl _) _
  have Hown := Lib.hid hown; have Hb := Lib.hid hb
  clear hown hb hZs hi hz0 hz1 hz2
  go_enter Tryz.func167, Tryz.ntmps167
  go_wp2_with (at_builtin; refine Lib.wpList_append_run w rfl _ _ _ _ rfl _ _ rfl rfl _ _ happ ?_)
  go_wp2_with fail
  go_ret
  exact ⟨_, _, rfl, Hown.out, Hb.out⟩
def lensTo (rows : List (List Int)) : Nat → Nat
  | 0 => 0
  | k + 1 => lensTo rows k + (rows.getD k []).length
def catTo (rows : List (List Int)) : Nat → List Int
  | 0 => []
  | k + 1 => catTo rows k ++ rows.getD k []
theorem catTo_length (rows : List (List Int)) : ∀ k, (catTo rows k).length = lensTo rows k
  | 0 => rfl
  | k + 1 => by simp only [catTo, lensTo, List.length_append, catTo_length rows k]
theorem lensTo_mono (rows : List (List Int)) {k m : Nat} (h : k ≤ m) : lensTo rows k ≤ lensTo rows m := by
  induction m with
  | zero => obtain rfl : k = 0 := by omega
            exact Nat.le_refl _
  | succ m ih =>
    by_cases e : k = m + 1
    · subst e; exact Nat.le_refl _
    · have := ih (by omega)
      simp only [lensTo]; omega
set_option maxHeartbeats 2000000 in
theorem slices_Concat_any (g o n cp : Nat) (rows : List (List Int)) (w : World) (hn : rows.length = n) (hl : rows.length ≤ 1048576) (h1 : 1 ≤ lensTo rows rows.length) (hm : lensTo rows rows.length ≤ 1048576) (hg : g < w.heap.size) (hr : Rows2 w g o rows) :
    Calls Tryz.prog 158 #[(Value.slice (some ⟨g, o, none⟩) n cp)] w (GotInts w (catTo rows rows.length)) := by
  subst hn
  have Hr := Lib.hid hr; clear hr
  have Hm := Lib.hid (fun k (hk : k ≤ rows.length) => Nat.le_trans (lensTo_mono rows hk) hm)
  go_enter Tryz.func158, Tryz.ntmps158
  go_wp2
  go_loopw [3, 11] (fun sv kv wr => ∃ k q : Nat, k ≤ rows.length ∧ kv = .int .i64 k ∧ sv = .int .i64 (lensTo rows k) ∧ wr = w.drewN q) (fun _ kv _ => rows.length - (intOf kv).toNat)
  case atStart => exact ⟨0, 0, Nat.zero_le _, rfl, rfl, rfl⟩
  case round =>
    obtain ⟨k, q, hk, rfl, rfl, rfl⟩ := hrel
    by_cases hlt : k < rows.length
    · obtain ⟨gj, oj, cj, q1, q2, q3, q4⟩ := Hr.out k hlt
      have hs : lensTo rows (k + 1) = lensTo rows k + (rows.getD k []).length := rfl
      have hmk := Hm.out (k + 1) hlt
      rw [hs] at hmk
      have Hs := Lib.hid hs
      clear hs q4
      generalize (rows.getD k []).length = rl at *
      generalize lensTo rows k = a at *
      go_wp2_with fail
      go_roundw
      case rel => exact ⟨k + 1, q, by omega, by go_num, by rw [Hs.out]; go_num, rfl⟩
      case measure => simp [intOf]; omega
    · obtain rfl : k = rows.length := by omega
      have hcall := slices_Grow_nil (lensTo rows rows.length) (w.drewN q) h1 hm
      have Hcall := Lib.hid hcall
      clear hcall
      go_wp2_with fail
      refine Hcall.out.mono ?_
      rintro e w1 ⟨g1, c1, rfl, ho1, hb1⟩
      have hb0 : Below w.heap.size w w1 := (below_drewN' (B := w.heap.size) w q).trans hb1
      have ho0 : Own w1 w.heap.size g1 c1 [] := ho1
      clear h1 Hcall hb1 ho1
      go_wp2_with fail
      go_loopw [6, 27] (fun ov kv wi => ∃ k g' c' : Nat, k ≤ rows.length ∧ kv = .int .i64 k ∧ ov = (Value.slice (some ⟨g', 0, none⟩) (lensTo rows k) c') ∧ Own wi w.heap.size g' c' (catTo rows k) ∧ Below w.heap.size w wi) (fun _ kv _ => rows.length - (intOf kv).toNat)
      case atStart => exact ⟨0, g1, c1, Nat.zero_le _, rfl, rfl, ho0, hb0⟩
      case round =>
        clear ho0 hb0
        obtain ⟨k, g', c', hk, rfl, rfl, ho, hb⟩ := hrel
        by_cases hlt : k < rows.length
        · obtain ⟨gj, oj, cj, q1, q2, q3, q4⟩ := (Hr.out.below hb hg) k hlt
          have hmk := Hm.out (k + 1) hlt
          have hs : lensTo rows (k + 1) = lensTo rows k + (rows.getD k []).length := rfl
          have hcs : catTo rows (k + 1) = catTo rows k ++ rows.getD k [] := rfl
          have hcl := catTo_length rows k
          rw [hs] at hmk
          have Hs := Lib.hid hs; have Hcs := Lib.hid hcs; have Hcl := Lib.hid hcl
          clear hs hcs hcl
          generalize lensTo rows k = a at *
          generalize catTo rows k = A at *
          generalize hrw : rows.getD k [] = r at *
          generalize hrl : r.length = rl at *
          go_wp2_with (at_builtin; refine wpList_append_ints_n rfl _ _ rfl w.heap.size g' c' a A Hcl.out ho gj oj rl cj r hrl q4 rfl rfl (by omega) ?_)
          intro g3 c3 w3 ho3 hg3 hor3
          rw [← Hcs.out] at ho3
          have hb3 := hb.grown hg3 hb.size (by intro j hj; cases hj; exact ho.base)
          go_wp2_with fail
          go_roundw
          case rel => exact ⟨k + 1, g3, c3, by omega, by go_num, by rw [Hs.out], ho3, hb3⟩
          case measure => simp [intOf]; omega
        · obtain rfl : k = rows.length := by omega
          go_wp2
          go_ret
          exact GotInts.mk' g' c' (catTo_length _ _) ho hb
end Go.Proofs.YtkjglfafphffiaaGreatDoor
