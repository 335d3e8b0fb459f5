/- Letters at some places of a word: contract of the reference; plain law. Sets of vectors that a call keeps in a map: words and laws. New rows and a bool; small laws of sets of vectors. Sets of points, matrices of points: contracts at valid matrices. Letters that show that an element is not below another one: plain law; the reference's: contract. Positive roots of finite types, up to height 12: the search as a function; by enumeration it is closed at every finite type. Plain law. RootSign of both: contracts. -/
import Derived.Test.YtkjglfafphffiaaGreatT19
import Derived.BigQuiet
import Derived.Test.YtkjglfafphffiaaGreatT03
import Derived.Laws.CopyOwn
import Derived.Maps.Own
import Derived.Maps.OwnOps
import Derived.Maps.Views
import Derived.WideKeyArr2
import Derived.DeepKeys4
import Derived.Test.YtkjglfafphffiaaGreatT02
import Derived.Test.YtkjglfafphffiaaGreatT07
import Derived.Deep.RegionHeld3
import Derived.Deep.RegionWith
import Derived.Deep.Cut
import Derived.Deep.CutRange
import Derived.Test.YtkjglfafphffiaaGreatT00
import Derived.Test.YtkjglfafphffiaaGreatT11
import Derived.Test.YtkjglfafphffiaaGreatT16
namespace Go.Proofs.YtkjglfafphffiaaGreat
set_option maxRecDepth 100000
open Go.RowKit Game
def takeAt (n : Nat) (ps : List Int) (k : Nat) : Prop := 0 ≤ ps.getD k 0 ∧ ps.getD k 0 < (n : Int) ∧ (0 < k → ps.getD (k - 1) 0 < ps.getD k 0)
instance (n : Nat) (ps : List Int) (k : Nat) : Decidable (takeAt n ps k) := by unfold takeAt; infer_instance
def takeB (n : Nat) (ps : List Int) : Bool := (List.range ps.length).all fun k => decide (takeAt n ps k)
def takeTo (v ps : List Int) (t : Nat) : List Int := (ps.take t).map fun p => v.getD p.toNat 0
def takeL (v ps : List Int) : List Int := ps.map fun p => v.getD p.toNat 0
theorem takeB_yes {n : Nat} {ps : List Int} (h : ∀ k, k < ps.length → takeAt n ps k) : takeB n ps = true := List.all_eq_true.2 fun k hk => decide_eq_true (h k (List.mem_range.1 hk))
theorem takeB_no {n : Nat} {ps : List Int} {k : Nat} (hk : k < ps.length) (h : ¬ takeAt n ps k) : takeB n ps = false := by
  rw [← Bool.not_eq_true]
  intro ht
  exact h (of_decide_eq_true (List.all_eq_true.1 ht k (List.mem_range.2 hk)))
theorem takeB_at {n : Nat} {ps : List Int} (h : takeB n ps = true) {k : Nat} (hk : k < ps.length) : takeAt n ps k := of_decide_eq_true (List.all_eq_true.1 h k (List.mem_range.2 hk))
theorem take_ge {n : Nat} {ps : List Int} {m : Nat} (h : ∀ k, k < m → takeAt n ps k) : ∀ k, k < m → (k : Int) ≤ ps.getD k 0
  | 0, hk => (h 0 hk).1
  | k + 1, hk => by
    have h1 := take_ge h k (by omega)
    have h2 := (h (k + 1) hk).2.2 (by omega)
    rw [Nat.add_sub_cancel] at h2
    omega
theorem take_few {n : Nat} {ps : List Int} {m : Nat} (h : ∀ k, k < m → takeAt n ps k) : m ≤ n := by
  cases m with
  | zero => omega
  | succ m =>
    have h1 := take_ge h m (by omega)
    have h2 := (h m (by omega)).2.1
    omega
theorem takeTo_succ {v ps : List Int} {t : Nat} (ht : t < ps.length) : takeTo v ps (t + 1) = takeTo v ps t ++ [v.getD (ps.getD t 0).toNat 0] := by
  unfold takeTo
  rw [List.take_succ_eq_append_getElem ht, List.map_append]
  simp [List.getD, ht]
theorem takeTo_length {v ps : List Int} {t : Nat} (ht : t ≤ ps.length) : (takeTo v ps t).length = t := by simp [takeTo]; omega
theorem takeTo_all (v ps : List Int) : takeTo v ps ps.length = takeL v ps := by simp [takeTo, takeL]
theorem takeL_lets {c : List (List Int)} {m : Nat} {v ps : List Int} (hv : Lets c m v) (h : takeB v.length ps = true) : Lets c m (takeL v ps) := by
  refine lets_of hv.isC ?_ fun x hx => ?_
  · have := take_few (n := v.length) (ps := ps) (m := ps.length) (fun k hk => takeB_at h hk)
    have := hv.few
    simp [takeL]; omega
  · obtain ⟨p, hp, rfl⟩ := List.mem_map.1 hx
    obtain ⟨k, hk, rfl⟩ := List.mem_iff_getElem.1 hp
    have h1 := takeB_at h hk
    have e : ps.getD k 0 = ps[k] := by simp [List.getD, hk]
    unfold takeAt at h1
    rw [e] at h1
    exact hv.inr ps[k].toNat (by omega)
end Go.Proofs.YtkjglfafphffiaaGreat
namespace Go.Proofs.YtkjglfafphffiaaGreat
set_option maxRecDepth 100000
open Go.RowKit Game
open Go.Maps (Keyed IsMap)
theorem boolZero (w : World) : (zeroValue 4).run Tryz.prog w = .ok (.bool false) w := by kernel_rfl
section
variable {w w' : World} {b n m : Nat} {ks : List (List Int)}
theorem plainElem_bool_inv {P : Program} {e : TypeId} (he : P.underlying e = some .bool) {v : Value} {z : DataW Unit × List MemPlace} (h : plainElem P e v = some z) : ∃ x, v = .bool x ∧ z = (.lit (.bool x), []) := by
  unfold plainElem at h
  rw [he] at h
  cases v <;> simp at h
  subst h
  exact ⟨_, rfl, rfl⟩
end
end Go.Proofs.YtkjglfafphffiaaGreat
namespace Go.Proofs.YtkjglfafphffiaaGreat
set_option maxRecDepth 100000
open Go.RowKit Game
/-- new rows and a bool -/
def GotRowsB (w : World) (rows : List (List Int)) (b : Bool) (e : Ending) (w' : World) : Prop :=
  ∃ g cap rs, e = .returned (.tuple #[(Value.slice (some ⟨g, 0, none⟩) rows.length cap), .bool b]) ∧ contents rs = rows ∧ OwnRows w' w.heap.size g cap rs ∧ Below w.heap.size w w'
theorem GotRowsB.mk' {w w' : World} {rows : List (List Int)} {b : Bool} {n : Nat} (g cap : Nat) (rs : List RowRef) (hl : rs.length = n) (hc : contents rs = rows) (ho : OwnRows w' w.heap.size g cap rs) (hb : Below w.heap.size w w') :
    GotRowsB w rows b (.returned (.tuple #[(Value.slice (some ⟨g, 0, none⟩) n cap), .bool b])) w' := by
  subst hl; subst hc
  exact ⟨g, cap, rs, by rw [contents_length], rfl, ho, hb⟩
end Go.Proofs.YtkjglfafphffiaaGreat
namespace Go.Proofs.YtkjglfafphffiaaGreat
set_option maxRecDepth 100000
open Go.RowKit Game
def prevAt (ps : List Int) (k : Nat) : Int := if k = 0 then -1 else ps.getD (k - 1) 0
theorem prevAt_succ (ps : List Int) (k : Nat) : prevAt ps (k + 1) = ps.getD k 0 := by simp [prevAt]
theorem takeAt_iff {n : Nat} {ps : List Int} {k : Nat} (h : ∀ j, j < k → takeAt n ps j) : takeAt n ps k ↔ prevAt ps k < ps.getD k 0 ∧ ps.getD k 0 < (n : Int) := by
  unfold takeAt prevAt
  by_cases h0 : k = 0
  · subst h0; simp only [if_true]; omega
  · have h1 := take_ge h (k - 1) (by omega)
    rw [if_neg h0]
    omega
set_option maxHeartbeats 1000000 in
theorem impl_isSet_any (gc oc n cc g o m cp : Nat) (s : List Int) (w : World) (hm : s.length = m) (hl : s.length ≤ 1048576) (hc : Cells w g o s) :
    Calls Tryz.prog 99 #[(Value.slice (some ⟨gc, oc, none⟩) n cc), (Value.slice (some ⟨g, o, none⟩) m cp)] w (Reads w (.bool (takeB n s))) := by
  subst hm
  go_enter Tryz.func99, Tryz.ntmps99
  go_wp2
  go_loopw [5, 10] (fun lv i wr => ∃ k : Nat, k ≤ s.length ∧ i = .int .i64 k ∧ lv = .int .i64 (prevAt s k) ∧ Hid (∀ j, j < k → takeAt n s j) ∧ ∃ q, wr = w.drewN q) (fun _ i _ => s.length - (intOf i).toNat)
  case atStart => exact ⟨0, Nat.zero_le _, rfl, rfl, fun j h => absurd h (by omega), (by first | exact ⟨_, rfl⟩ | exact ⟨0, rfl⟩ | exact still2 _ _ _ | exact still3 _ _ _ _)⟩
  case round =>
    obtain ⟨k, hk, rfl, rfl, hp, q, rfl⟩ := hrel
    by_cases hlt : k < s.length
    · have c1 := hc k hlt
      have hiff := takeAt_iff hp.out
      have hno : ¬ takeAt n s k → takeB n s = false := takeB_no hlt
      have hyes : takeAt n s k → ∀ j, j < k + 1 → takeAt n s j := fun h j hj => by
        by_cases e : j = k
        · subst e; exact h
        · exact hp.out j (by omega)
      have hps := Lib.hid (prevAt_succ s k)
      generalize prevAt s k = z at *
      generalize s.getD k 0 = p at *
      by_cases h1 : p ≤ z
      · have Hno := Lib.hid (hno (fun h => by have := (hiff.1 h).1; omega))
        clear hno hyes hiff hp
        go_wp2_with fail
        go_ret
        exact ⟨ret_bool Hno.out.symm, (by first | exact ⟨_, rfl⟩ | exact ⟨0, rfl⟩ | exact still2 _ _ _ | exact still3 _ _ _ _)⟩
      · by_cases h2 : (n : Int) ≤ p
        · have Hno := Lib.hid (hno (fun h => by have := (hiff.1 h).2; omega))
          clear hno hyes hiff hp
          go_wp2_with fail
          go_ret
          exact ⟨ret_bool Hno.out.symm, (by first | exact ⟨_, rfl⟩ | exact ⟨0, rfl⟩ | exact still2 _ _ _ | exact still3 _ _ _ _)⟩
        · have Hyes := Lib.hid (hyes (hiff.2 ⟨by omega, by omega⟩))
          clear hno hyes hiff hp
          go_wp2_with fail
          go_roundw
          case rel => exact ⟨k + 1, by omega, by go_num, by rw [hps.out], Hyes.out, (by first | exact ⟨_, rfl⟩ | exact ⟨0, rfl⟩ | exact still2 _ _ _ | exact still3 _ _ _ _)⟩
          case measure => simp [intOf]; omega
    · obtain rfl : k = s.length := by omega
      have Hf := Lib.hid (takeB_yes hp.out)
      clear hp
      go_wp2
      go_ret
      exact ⟨ret_bool Hf.out.symm, (by first | exact ⟨_, rfl⟩ | exact ⟨0, rfl⟩ | exact still2 _ _ _ | exact still3 _ _ _ _)⟩
def setBB (c : List (List Int)) (s : List Int) : Bool := takeB c.length s && !(s.length == 0)
def subR (c : List (List Int)) (s : List Int) : List (List Int) := if setBB c s = true then pickL c s else []
theorem setBB_yes {c : List (List Int)} {s : List Int} (hC : IsC c) (h : setBB c s = true) : 1 ≤ s.length ∧ s.length ≤ 4 ∧ (∀ t, t < s.length → 0 ≤ s.getD t 0 ∧ s.getD t 0 < c.length) ∧ (∀ t, t + 1 < s.length → s.getD t 0 < s.getD (t + 1) 0) := by
  unfold setBB at h
  rw [Bool.and_eq_true] at h
  have h0 : s.length ≠ 0 := by simpa using h.2
  have hf := take_few (n := c.length) (ps := s) (m := s.length) (fun k hk => takeB_at h.1 hk)
  have := hC.2.1
  refine ⟨by omega, by omega, fun t ht => ⟨(takeB_at h.1 ht).1, (takeB_at h.1 ht).2.1⟩, fun t ht => ?_⟩
  have := (takeB_at h.1 ht).2.2 (by omega)
  rwa [Nat.add_sub_cancel] at this
set_option maxHeartbeats 1000000 in
theorem impl_SubCartan_ok (gc oc n cc g o m cs : Nat) (c : List (List Int)) (s : List Int) (w : World) (hn : c.length = n) (hm : s.length = m) (hC : IsC c) (hl : s.length ≤ 1048576) (hgc : gc < w.heap.size) (hg : g < w.heap.size) (hr : Rows2 w gc oc c) (hc : Cells w g o s) :
    Calls Tryz.prog 59 #[(Value.slice (some ⟨gc, oc, none⟩) n cc), (Value.slice (some ⟨g, o, none⟩) m cs)] w (GotRowsB w (subR c s) (setBB c s)) := by
  have hn4 := hC.2.1
  have hcl := hC.2.2.1
  have h1 := impl_IsCartan gc oc n cc c w hn (by omega) (fun j hj => by have := hcl j hj; omega) hr
  rw [decide_eq_true hC] at h1
  have H1 := Lib.hid h1
  have H2 := Lib.hid (fun W (hs : ∃ q, W = w.drewN q) => impl_isSet_any gc oc n cc g o m cs s W hm hl (hc.still hs))
  have hpk := fun (h : setBB c s = true) (W : World) (hs : ∃ q, W = w.drewN q) => impl_picked_any gc oc n cc g o m cs c s W hn hm (setBB_yes hC h).2.1 hcl (setBB_yes hC h).2.2.1 (Nat.lt_of_lt_of_le hgc (below_still (Below.refl w.heap.size w) hs).size) (Nat.lt_of_lt_of_le hg (below_still (Below.refl w.heap.size w) hs).size) (hr.still hs) (hc.still hs)
  cases hb : setBB c s with
  | true =>
    have hsr : subR c s = pickL c s := if_pos hb
    have hb' := hb
    unfold setBB at hb'
    rw [Bool.and_eq_true] at hb'
    have hm0 : ((m : Int) == 0) = false := by
      have : s.length ≠ 0 := by simpa using hb'.2
      rw [beq_eq_false_iff_ne]; omega
    have hset : takeB n s = true := by rw [← hn]; exact hb'.1
    rw [hset] at H2
    rw [hsr]
    have H3 := Lib.hid (hpk hb)
    clear h1 hpk hr hc hb hb' hset hsr hcl
    go_enter Tryz.func59, Tryz.ntmps59
    go_wp2_with fail
    refine H1.out.mono ?_
    rintro e w1 ⟨rfl, hs1⟩
    go_wp2_with fail
    refine (H2.out w1 hs1).mono ?_
    rintro e w2 ⟨rfl, hs2⟩
    have hs := still_trans hs1 hs2
    have hb2 := below_still (Below.refl w.heap.size w) hs
    go_wp2_with fail
    refine (H3.out w2 hs).mono ?_
    rintro e w3 ⟨g3, c3, rs, rfl, hcon, ho, hb3⟩
    go_wp2_with fail
    go_ret2
    exact ⟨g3, c3, rs, rfl, hcon, ho.mono hb2.size, hb2.trans (hb3.mono hb2.size)⟩
  | false =>
    have hsr : subR c s = [] := if_neg (by rw [hb]; decide)
    rw [hsr]
    by_cases h0 : s.length = 0
    · have hm0 : ((m : Int) == 0) = true := by rw [beq_iff_eq]; omega
      clear h1 hpk hr hc hb hsr hcl
      go_enter Tryz.func59, Tryz.ntmps59
      go_wp2_with fail
      refine H1.out.mono ?_
      rintro e w1 ⟨rfl, hs1⟩
      have hb2 := below_still (Below.refl w.heap.size w) hs1
      go_wp2_with fail
      go_ret2
      exact GotRowsB.mk' _ 0 [] rfl rfl (OwnRows.empty hb2.size) (hb2.alloc hb2.size _)
    · have hm0 : ((m : Int) == 0) = false := by rw [beq_eq_false_iff_ne]; omega
      have hset : takeB n s = false := by
        rw [← hn]
        unfold setBB at hb
        have h00 : (s.length == 0) = false := by simpa using h0
        rw [h00] at hb
        simpa using hb
      rw [hset] at H2
      clear h1 hpk hr hc hb hsr hcl hset
      go_enter Tryz.func59, Tryz.ntmps59
      go_wp2_with fail
      refine H1.out.mono ?_
      rintro e w1 ⟨rfl, hs1⟩
      go_wp2_with fail
      refine (H2.out w1 hs1).mono ?_
      rintro e w2 ⟨rfl, hs2⟩
      have hs := still_trans hs1 hs2
      have hb2 := below_still (Below.refl w.heap.size w) hs
      go_wp2_with fail
      go_ret2
      exact GotRowsB.mk' _ 0 [] rfl rfl (OwnRows.empty hb2.size) (hb2.alloc hb2.size _)
end Go.Proofs.YtkjglfafphffiaaGreat
namespace Go.Proofs.YtkjglfafphffiaaGreat
set_option maxRecDepth 100000
open Go.RowKit Game
/-- a normal form of at most 15 letters -/
structure Nw (c : List (List Int)) (U : List Int) : Prop where
  lets : Lets c 15 U
  self : nfI c U = U
theorem nw_nf {c : List (List Int)} {v : List Int} (h : WordOk c v) : Nw c (nfI c v) :=
  ⟨(nfI_ok (h.lets.mono (by omega))).lets.mono h.few, nfI_self (h.lets.mono (by omega))⟩
theorem Nw.cons {c : List (List Int)} {U : List Int} (h : Nw c U) {i : Nat} (hi : i < c.length) : Lets c 16 ((i : Int) :: U) :=
  lets_of h.lets.isC (by have := h.lets.few; simp; omega) fun x hx => by
    rcases List.mem_cons.1 hx with g | g
    · subst g; omega
    · exact h.lets.mem x g
theorem Nw.down {c : List (List Int)} {U : List Int} (h : Nw c U) {i : Nat} (hi : i < c.length) (hneg : (imI c U).getD i 0 < 0) : Nw c (nfI c ((i : Int) :: U)) := by
  have h1 := nfI_down (h.lets.mono (by omega)) hi hneg
  rw [h.self] at h1
  have h2 := nfI_ok ((h.cons hi).mono (show 16 ≤ 30 by omega))
  have := h.lets.few
  exact ⟨⟨h2.lets.isC, by omega, h2.lets.inr⟩, nfI_self ((h.cons hi).mono (by omega))⟩
theorem Nw.img {c : List (List Int)} {U : List Int} (h : Nw c U) {i : Nat} (hi : i < c.length) : imI c (nfI c ((i : Int) :: U)) = refl c i (imI c U) := by
  rw [(nfI_ok ((h.cons hi).mono (show 16 ≤ 30 by omega))).img]; rfl
theorem Nw.ne {c : List (List Int)} {U : List Int} (h : Nw c U) {i : Nat} (hi : i < c.length) : (imI c U).getD i 0 ≠ 0 := imI_ne (h.lets.mono (by omega)) hi
/-- letter after letter -/
def nbGo (c : List (List Int)) : List Int → List Int → List Int → Option (List Int × List Int)
  | [], U, V => some (U, V)
  | s :: ps, U, V => if 0 ≤ s ∧ s < (c.length : Int) ∧ (imI c V).getD s.toNat 0 < 0 then nbGo c ps (if (imI c U).getD s.toNat 0 < 0 then nfI c (s :: U) else U) (nfI c (s :: V)) else none
def nbR (r : Option (List Int × List Int)) : Bool := match r with
  | none => false
  | some (U, V) => decide (V.length < U.length)
def notB (c : List (List Int)) (a b ps : List Int) : Bool := nbR (nbGo c ps (nfI c a) (nfI c b))
theorem nbGo_drop {c : List (List Int)} {ps U V : List Int} {k : Nat} (hk : k < ps.length) : nbGo c (ps.drop k) U V = if 0 ≤ ps.getD k 0 ∧ ps.getD k 0 < (c.length : Int) ∧ (imI c V).getD (ps.getD k 0).toNat 0 < 0 then nbGo c (ps.drop (k + 1)) (if (imI c U).getD (ps.getD k 0).toNat 0 < 0 then nfI c (ps.getD k 0 :: U) else U) (nfI c (ps.getD k 0 :: V)) else none := by
  have e : ps.getD k 0 = ps[k] := by simp [List.getD, hk]
  rw [List.drop_eq_getElem_cons hk, e]
  rfl
theorem nbGo_end (c : List (List Int)) (ps U V : List Int) : nbGo c (ps.drop ps.length) U V = some (U, V) := by rw [List.drop_length]; rfl
end Go.Proofs.YtkjglfafphffiaaGreat
namespace Go.Proofs.YtkjglfafphffiaaGreat
set_option maxRecDepth 100000
open Go.RowKit
/-- RootSign is 1 -/
def posB (r : List Int) : Bool := (r.any fun x => decide (0 < x)) && !(r.any fun x => decide (x < 0))
end Go.Proofs.YtkjglfafphffiaaGreat
namespace Go.Proofs.YtkjglfafphffiaaGreat
set_option maxRecDepth 100000
open Go.RowKit
def upB (r : List Int) : Bool := r.any fun x => decide (0 < x)
def dnB (r : List Int) : Bool := r.any fun x => decide (x < 0)
def signL (r : List Int) : Int := if upB r = dnB r then 0 else if upB r = true then 1 else -1
theorem posB_eq (r : List Int) : posB r = (upB r && !dnB r) := rfl
theorem sign_one (r : List Int) : (signL r == 1) = posB r := by
  unfold signL
  rw [posB_eq]
  cases upB r <;> cases dnB r <;> rfl
theorem sign_of {r : List Int} {u d : Bool} (hu : upB r = u) (hd : dnB r = d) : signL r = if u = d then 0 else if u = true then 1 else -1 := by unfold signL; rw [hu, hd]
theorem up_take {r : List Int} {k : Nat} (hk : k < r.length) : upB (r.take (k + 1)) = (upB (r.take k) || decide (0 < r.getD k 0)) := by
  unfold upB
  rw [List.take_succ_eq_append_getElem hk, List.any_append]
  simp [List.getD, hk]
theorem dn_take {r : List Int} {k : Nat} (hk : k < r.length) : dnB (r.take (k + 1)) = (dnB (r.take k) || decide (r.getD k 0 < 0)) := by
  unfold dnB
  rw [List.take_succ_eq_append_getElem hk, List.any_append]
  simp [List.getD, hk]
set_option maxHeartbeats 1000000 in
theorem impl_RootSign_any (g o n cp : Nat) (r : List Int) (w : World) (hn : r.length = n) (hx : r.length ≤ 1048576) (hr : Cells w g o r) :
    Calls Tryz.prog 96 #[(Value.slice (some ⟨g, o, none⟩) n cp)] w (Reads w (.int .i64 (signL r))) := by
  subst hn
  go_enter Tryz.func96, Tryz.ntmps96
  go_wp2
  go_loopw [3, 4, 9] (fun uv dv iv wr => ∃ k : Nat, k ≤ r.length ∧ uv = .bool (upB (r.take k)) ∧ dv = .bool (dnB (r.take k)) ∧ iv = .int .i64 k ∧ ∃ m, wr = w.drewN m) (fun _ _ iv _ => r.length - (intOf iv).toNat)
  case atStart => exact ⟨0, Nat.zero_le _, rfl, rfl, rfl, 0, rfl⟩
  case round =>
    obtain ⟨k, hk, rfl, rfl, rfl, m, rfl⟩ := hrel
    by_cases hlt : k < r.length
    · have q1 := hr k hlt
      have hu := up_take hlt
      have hd := dn_take hlt
      generalize r.getD k 0 = x at q1 hu hd
      have Hu := Lib.hid hu; have Hd := Lib.hid hd
      clear hu hd
      generalize upB (r.take k) = u at *
      generalize dnB (r.take k) = d at *
      cases u <;> cases d
      all_goals
        go_wp2
        go_roundw
        case rel => exact ⟨k + 1, by omega, by rw [Hu.out]; simp, by rw [Hd.out]; simp, by go_num, m, rfl⟩
        case measure => simp [intOf]; omega
    · obtain rfl : k = r.length := by omega
      rw [List.take_length] at *
      generalize hu : upB r = u at *
      generalize hd : dnB r = d at *
      have E := Lib.hid (sign_of hu hd)
      clear hu hd
      cases u <;> cases d
      all_goals
        go_wp2
        go_ret
        exact ⟨congrArg (fun t => Ending.returned (.int .i64 t)) E.out.symm, m, rfl⟩
end Go.Proofs.YtkjglfafphffiaaGreat
