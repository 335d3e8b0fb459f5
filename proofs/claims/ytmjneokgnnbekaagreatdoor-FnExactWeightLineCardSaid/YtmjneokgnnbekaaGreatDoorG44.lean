/- Dimensions by Weyl's formula, of both: contracts. -/
import Derived.Test.YtmjneokgnnbekaaGreatDoorG43
import Derived.Test.YtmjneokgnnbekaaGreatDoorG12
namespace Go.Proofs.YtmjneokgnnbekaaGreatDoor
set_option maxRecDepth 100000
open Go.RowKit Game

theorem mul_bd {a b : Nat} (ha : a ≤ 5) (hb : b ≤ 12) : a * b ≤ 60 := Nat.le_trans (Nat.mul_le_mul ha hb) (by decide)
structure RowOk (n : Nat) (v r : List Int) : Prop where
  vl : v.length = n
  rl : r.length = n
  v4 : ∀ j, j < n → 0 ≤ v.getD j 0 ∧ v.getD j 0 ≤ 4
  r12 : ∀ j, j < n → 0 ≤ r.getD j 0 ∧ r.getD j 0 ≤ 12
  n4 : n ≤ 4
theorem RowOk.of {n : Nat} {v r : List Int} (hv : Sml n v) (hr : ∀ x ∈ r, 0 ≤ x ∧ x ≤ 12) (hl : r.length = n) (hn : n ≤ 4) : RowOk n v r :=
  ⟨hv.1, hl, fun j hj => hv.2 j (by rw [hv.1]; exact hj), fun j hj => hr _ (by simp [List.getD, show j < r.length by omega]), hn⟩
theorem RowOk.nS_le {n : Nat} {v r : List Int} (h : RowOk n v r) : ∀ k, k ≤ n → nS v r k ≤ 60 * k
  | 0, _ => by simp [nS]
  | k + 1, hk => by
    have h1 := h.nS_le k (by omega)
    have h2 := h.v4 k (by omega)
    have h3 := h.r12 k (by omega)
    have := mul_bd (a := (v.getD k 0).toNat + 1) (b := (r.getD k 0).toNat) (by omega) (by omega)
    show nS v r k + ((v.getD k 0).toNat + 1) * (r.getD k 0).toNat ≤ 60 * (k + 1)
    omega
theorem RowOk.dot {n : Nat} {v r u : List Int} (h : RowOk n v r) (hu : ∀ j, j < n → u.getD j 0 = v.getD j 0 + 1) : ∀ k, k ≤ n → dotTo u r k = ((nS v r k : Nat) : Int)
  | 0, _ => rfl
  | k + 1, hk => by
    have h1 := h.dot hu k (by omega)
    have h2 := h.v4 k (by omega)
    have h3 := h.r12 k (by omega)
    have h4 := h.nS_le k (by omega)
    have hn := h.n4
    have h5 := mul_bd (a := (v.getD k 0).toNat + 1) (b := (r.getD k 0).toNat) (by omega) (by omega)
    have e : u.getD k 0 * r.getD k 0 = ((((v.getD k 0).toNat + 1) * (r.getD k 0).toNat : Nat) : Int) := by
      rw [hu k (by omega)]
      have a1 : v.getD k 0 = (((v.getD k 0).toNat : Nat) : Int) := by omega
      have a2 : r.getD k 0 = (((r.getD k 0).toNat : Nat) : Int) := by omega
      generalize (v.getD k 0).toNat = a at *
      generalize (r.getD k 0).toNat = b at *
      rw [a1, a2]
      simp
    show wrap64 (dotTo u r k + wrap64 (u.getD k 0 * r.getD k 0)) = ((nS v r k + ((v.getD k 0).toNat + 1) * (r.getD k 0).toNat : Nat) : Int)
    rw [h1, e]
    generalize ((v.getD k 0).toNat + 1) * (r.getD k 0).toNat = p at *
    generalize nS v r k = z at *
    rw [IntWalk.wrap64_in (p : Int) ⟨by omega, by omega⟩, IntWalk.wrap64_in _ ⟨by omega, by omega⟩]
    omega
theorem RowOk.hS_le {n : Nat} {v r : List Int} (h : RowOk n v r) : ∀ k, k ≤ n → hS r k ≤ 12 * k
  | 0, _ => by simp [hS]
  | k + 1, hk => by
    have h1 := h.hS_le k (by omega)
    have h3 := h.r12 k (by omega)
    show hS r k + (r.getD k 0).toNat ≤ 12 * (k + 1)
    omega
theorem RowOk.sum {n : Nat} {v r : List Int} (h : RowOk n v r) : ∀ k, k ≤ n → sumUp r k = ((hS r k : Nat) : Int)
  | 0, _ => rfl
  | k + 1, hk => by
    have h1 := h.sum k (by omega)
    have h3 := h.r12 k (by omega)
    have h4 := h.hS_le k (by omega)
    have hn := h.n4
    show wrap64 (sumUp r k + r.getD k 0) = ((hS r k + (r.getD k 0).toNat : Nat) : Int)
    rw [h1]
    generalize hS r k = z at *
    rw [IntWalk.wrap64_in _ ⟨by omega, by omega⟩]
    omega
theorem RowOk.height {n : Nat} {v r : List Int} (h : RowOk n v r) : heightL r = ((sumN r : Nat) : Int) := by
  unfold heightL
  rw [sumN_hS, h.rl]
  exact h.sum n (Nat.le_refl _)
/-- the pairing with the weight alone -/
def mS (v r : List Int) : Nat → Nat
  | 0 => 0
  | k + 1 => mS v r k + (v.getD k 0).toNat * (r.getD k 0).toNat
theorem mS_nS (v r : List Int) : ∀ k, mS v r k + hS r k = nS v r k
  | 0 => rfl
  | k + 1 => by
    have h := mS_nS v r k
    show mS v r k + (v.getD k 0).toNat * (r.getD k 0).toNat + (hS r k + (r.getD k 0).toNat) = nS v r k + ((v.getD k 0).toNat + 1) * (r.getD k 0).toNat
    rw [Nat.add_mul, Nat.one_mul]
    omega
theorem RowOk.dot0 {n : Nat} {v r : List Int} (h : RowOk n v r) : ∀ k, k ≤ n → dotTo v r k = ((mS v r k : Nat) : Int)
  | 0, _ => rfl
  | k + 1, hk => by
    have h1 := h.dot0 k (by omega)
    have h2 := h.v4 k (by omega)
    have h3 := h.r12 k (by omega)
    have h4 := h.nS_le k (by omega)
    have h6 := mS_nS v r k
    have hn := h.n4
    have h5 := mul_bd (a := (v.getD k 0).toNat) (b := (r.getD k 0).toNat) (by omega) (by omega)
    have e : v.getD k 0 * r.getD k 0 = (((v.getD k 0).toNat * (r.getD k 0).toNat : Nat) : Int) := by
      have a1 : v.getD k 0 = (((v.getD k 0).toNat : Nat) : Int) := by omega
      have a2 : r.getD k 0 = (((r.getD k 0).toNat : Nat) : Int) := by omega
      generalize (v.getD k 0).toNat = a at *
      generalize (r.getD k 0).toNat = b at *
      rw [a1, a2]
      simp
    show wrap64 (dotTo v r k + wrap64 (v.getD k 0 * r.getD k 0)) = ((mS v r k + (v.getD k 0).toNat * (r.getD k 0).toNat : Nat) : Int)
    rw [h1, e]
    generalize (v.getD k 0).toNat * (r.getD k 0).toNat = p at *
    generalize mS v r k = z at *
    rw [IntWalk.wrap64_in (p : Int) ⟨by omega, by omega⟩, IntWalk.wrap64_in _ ⟨by omega, by omega⟩]
    omega
theorem RowOk.both {n : Nat} {v r : List Int} (h : RowOk n v r) : dotTo v r n + heightL r = ((nS v r n : Nat) : Int) := by
  rw [h.height, h.dot0 n (Nat.le_refl _), sumN_hS, h.rl, ← mS_nS]
  omega
theorem add_ones {n : Nat} {v : List Int} (hv : Sml n v) : ∀ j, j < n → (addTo v (onesL n) n).getD j 0 = v.getD j 0 + 1 := by
  intro j hj
  have h := hv.2 j (by rw [hv.1]; exact hj)
  have e : (addTo v (onesL n) n).getD j 0 = wrap64 (v.getD j 0 + (onesL n).getD j 0) := by simp [addTo, List.getD, hj]
  have e2 : (onesL n).getD j 0 = 1 := by simp [onesL, List.getD, hj]
  rw [e, e2]
  exact IntWalk.wrap64_in _ ⟨by omega, by omega⟩

def dimB (c : List (List Int)) (v : List Int) : Bool := finB c && decide (Sml c.length v) && decide ((coL c).length ≤ 16)
def dimN (c : List (List Int)) (v : List Int) : Nat := prodN (abL v (coL c)) / prodN (beL (coL c))
def dimL (c : List (List Int)) (v : List Int) : Int := if dimB c v = true then ((dimN c v : Nat) : Int) else 0
def dimV (c : List (List Int)) (v : List Int) : Value := .tuple #[.int .i64 (dimL c v), .bool (dimB c v)]
theorem dimV_no {c : List (List Int)} {v : List Int} (h : dimB c v = false) : dimV c v = .tuple #[.int .i64 0, .bool false] := by
  unfold dimV dimL
  rw [h]; rfl
theorem dimV_yes {c : List (List Int)} {v : List Int} (h : dimB c v = true) : dimV c v = .tuple #[.int .i64 ((dimN c v : Nat) : Int), .bool true] := by
  unfold dimV dimL
  rw [h]; rfl
theorem wrap_mul {a b m : Nat} (h : a * b ≤ m) (hm : m < 2 ^ 62) : IntKind.i64.wrap ((a : Int) * (b : Int)) = ((a * b : Nat) : Int) := by
  have e : ((a : Int) * (b : Int)) = ((a * b : Nat) : Int) := by simp
  rw [e]
  have h2 : (2 : Nat) ^ 62 = 4611686018427387904 := by decide
  exact IntWalk.i64_in _ ⟨by omega, by omega⟩
theorem tdiv_nat (a b : Nat) : Int.tdiv (a : Int) (b : Int) = ((a / b : Nat) : Int) := by rw [Int.tdiv_eq_ediv_of_nonneg (by omega)]; simp
theorem wrap_div {a b m : Nat} (h : a ≤ m) (hm : m < 2 ^ 62) : IntKind.i64.wrap ((a / b : Nat) : Int) = ((a / b : Nat) : Int) := by
  have h2 : (2 : Nat) ^ 62 = 4611686018427387904 := by decide
  have := Nat.div_le_self a b
  generalize a / b = q at *
  exact IntWalk.i64_in _ ⟨by omega, by omega⟩
/-- what a round of the reference's loop wants to know -/
structure UpRnd (s t x y M : Nat) : Prop where
  w1 : IntKind.i64.wrap ((s : Int) * (x : Int)) = ((s * x : Nat) : Int)
  w2 : IntKind.i64.wrap ((t : Int) * (y : Int)) = ((t * y : Nat) : Int)
  g0 : ((Nat.gcd (s * x) (t * y) : Nat) : Int) ≠ 0
  d1 : Int.tdiv ((s * x : Nat) : Int) ((Nat.gcd (s * x) (t * y) : Nat) : Int) = ((s * x / Nat.gcd (s * x) (t * y) : Nat) : Int)
  d2 : Int.tdiv ((t * y : Nat) : Int) ((Nat.gcd (s * x) (t * y) : Nat) : Int) = ((t * y / Nat.gcd (s * x) (t * y) : Nat) : Int)
  v1 : IntKind.i64.wrap ((s * x / Nat.gcd (s * x) (t * y) : Nat) : Int) = ((s * x / Nat.gcd (s * x) (t * y) : Nat) : Int)
  v2 : IntKind.i64.wrap ((t * y / Nat.gcd (s * x) (t * y) : Nat) : Int) = ((t * y / Nat.gcd (s * x) (t * y) : Nat) : Int)
  r1 : wrap64 (Int.tdiv ((s : Int) * (x : Int)) ((Nat.gcd (s * x) (t * y) : Nat) : Int)) = ((s * x / Nat.gcd (s * x) (t * y) : Nat) : Int)
  r2 : wrap64 (Int.tdiv ((t : Int) * (y : Int)) ((Nat.gcd (s * x) (t * y) : Nat) : Int)) = ((t * y / Nat.gcd (s * x) (t * y) : Nat) : Int)
theorem wrap_tdiv {a b x : Nat} (h : (x : Int) = a * b) {G m : Nat} (hx : x ≤ m) (hm : m < 2 ^ 62) : wrap64 (Int.tdiv ((a : Int) * (b : Int)) (G : Int)) = ((x / G : Nat) : Int) := by
  rw [← h, tdiv_nat]
  have h2 : (2 : Nat) ^ 62 = 4611686018427387904 := by decide
  have := Nat.div_le_self x G
  generalize x / G = q at *
  exact IntWalk.wrap64_in _ ⟨by omega, by omega⟩
theorem upRnd {v : List Int} {L : List (List Int)} (h : DimOk v L) {k : Nat} (hk : k < (abL v L).length) : UpRnd (upTo (abL v L) (beL L) k).1 (upTo (abL v L) (beL L) k).2 ((abL v L).getD k 0) ((beL L).getD k 0) 0 := by
  have hu := upOk h.len h.pa h.pb k (by omega)
  have b1 : pTo (abL v L) (k + 1) ≤ pTo (abL v L) (abL v L).length := by
    have := pTo_mono h.pa ((abL v L).length - (k + 1)) (k + 1) (by omega)
    rwa [show k + 1 + ((abL v L).length - (k + 1)) = (abL v L).length by omega] at this
  have b2 : pTo (beL L) (k + 1) ≤ pTo (beL L) (beL L).length := by
    have := pTo_mono h.pb ((beL L).length - (k + 1)) (k + 1) (by have := h.len; omega)
    rwa [show k + 1 + ((beL L).length - (k + 1)) = (beL L).length by have := h.len; omega] at this
  have c1 : (upTo (abL v L) (beL L) k).1 * (abL v L).getD k 0 ≤ pTo (abL v L) (k + 1) := Nat.mul_le_mul_right _ hu.l1
  have c2 : (upTo (abL v L) (beL L) k).2 * (beL L).getD k 0 ≤ pTo (beL L) (k + 1) := Nat.mul_le_mul_right _ hu.l2
  have p1 := Nat.mul_pos hu.p1 (h.pa k hk)
  have hle := h.le
  have hleb := h.leb
  generalize (upTo (abL v L) (beL L) k).1 = s at *
  generalize (upTo (abL v L) (beL L) k).2 = t at *
  generalize (abL v L).getD k 0 = x at *
  generalize (beL L).getD k 0 = y at *
  have hg : 0 < Nat.gcd (s * x) (t * y) := Nat.gcd_pos_of_pos_left _ p1
  exact ⟨wrap_mul (Nat.le_trans c1 b1) hle, wrap_mul (Nat.le_trans c2 b2) hleb, by omega, tdiv_nat _ _, tdiv_nat _ _, wrap_div (Nat.le_trans c1 b1) hle, wrap_div (Nat.le_trans c2 b2) hleb, wrap_tdiv (by simp) (Nat.le_trans c1 b1) hle, wrap_tdiv (by simp) (Nat.le_trans c2 b2) hleb⟩

set_option maxHeartbeats 1000000 in
theorem spec_WeylDimension_any (gc oc n cc g o m cv : Nat) (c : List (List Int)) (v : List Int) (w : World) (hn : c.length = n) (hm : v.length = m) (hx : c.length ≤ 1048576) (hvx : v.length ≤ 1048576)
    (hrl : ∀ j, j < c.length → (c.getD j []).length ≤ 1048576) (hgc : gc < w.heap.size) (hg : g < w.heap.size) (hr : Rows2 w gc oc c) (hv : Cells w g o v) :
    Calls Tryz.prog 15 #[(Value.slice (some ⟨gc, oc, none⟩) n cc), (Value.slice (some ⟨g, o, none⟩) m cv)] w (Gives w (dimV c v)) := by
  subst hn; subst hm
  have Hp := Lib.hid (spec_PositiveCoroots_any gc oc _ cc c w rfl hx hrl hgc hr)
  have Hs := Lib.hid (fun W (hW : Below w.heap.size w W) => spec_l25Small_any gc oc _ cc g o _ cv c v W rfl rfl hx hvx hrl (Nat.lt_of_lt_of_le hgc hW.size) (hr.below hW hgc) (hv.below hW hg))
  cases hf : finB c with
  | false =>
    rw [hf] at Hp
    have Hz := Lib.hid (dimV_no (v := v) (show dimB c v = false by unfold dimB; rw [hf]; rfl))
    clear hf Hs hr hv hrl
    generalize coA c = A at *
    go_enter Tryz.func15, Tryz.ntmps15
    go_wp2_with fail
    refine Hp.out.mono ?_
    rintro e w1 ⟨g1, c1, rs1, rfl, -, -, hb1⟩
    go_wp2_with fail
    go_ret2
    exact ⟨congrArg Ending.returned Hz.out.symm, hb1⟩
  | true =>
    rw [hf] at Hp
    rw [coA_fin hf] at Hp
    have hK := coOk_fin hf
    have hC := finB_isC hf
    rw [hf, Bool.true_and] at Hs
    by_cases hsm : Sml c.length v
    · rw [decide_eq_true hsm] at Hs
      by_cases h16 : (coL c).length ≤ 16
      · have hD := dimOk hK h16 hsm
        have Hz := Lib.hid (dimV_yes (v := v) (show dimB c v = true by unfold dimB; rw [hf, decide_eq_true hsm, decide_eq_true h16]; rfl))
        have hq : (upTo (abL v (coL c)) (beL (coL c)) (abL v (coL c)).length).1 / (upTo (abL v (coL c)) (beL (coL c)) (abL v (coL c)).length).2 = dimN c v := upTo_div hD.len hD.pa hD.pb hD.dvd
        have hend := upOk hD.len hD.pa hD.pb _ (Nat.le_refl _)
        have hro : ∀ k, k < (coL c).length → RowOk c.length v ((coL c).getD k []) := fun k hk => by
          have hm := coL_mem hK ((coL c).getD k []) (by simp [List.getD, hk])
          exact RowOk.of hsm hm.1 hm.2.2 hC.2.1
        have hrnd := fun k (hk : k < (coL c).length) => upRnd hD (k := k) (by unfold abL; rw [List.length_map]; exact hk)
        have hab : ∀ k, k < (coL c).length → (abL v (coL c)).getD k 0 = nS v ((coL c).getD k []) c.length := fun k hk => by rw [← hsm.1]; simp [abL, List.getD, hk]
        have hbe : ∀ k, k < (coL c).length → (beL (coL c)).getD k 0 = sumN ((coL c).getD k []) := fun k hk => by simp [beL, List.getD, hk]
        have hal : (abL v (coL c)).length = (coL c).length := by simp [abL]
        have Hrho := Lib.hid (fun W (hW : Below w.heap.size w W) => spec_RhoOf_ok gc oc _ cc c W rfl hC (Nat.lt_of_lt_of_le hgc hW.size) (hr.below hW hgc))
        have Hadd := Lib.hid (fun W (hW : Below w.heap.size w W) g2 c2 (hg2 : g2 < W.heap.size) (h2 : Cells W g2 0 (onesL c.length)) => spec_AddWeights_any g o c.length cv g2 0 c2 v (onesL c.length) W hsm.1 (onesL_length _) (by omega) (Nat.lt_of_lt_of_le hg hW.size) hg2 (hv.below hW hg) h2)
        have hadds := add_ones hsm
        have Haddl := Lib.hid (addTo_length v (onesL c.length) c.length)
        have Honl := Lib.hid (onesL_length c.length)
        have hn4 := hC.2.1
        rw [hal] at hq hend
        generalize hLe : coL c = L at *
        generalize addTo v (onesL c.length) c.length = vv at *
        generalize onesL c.length = on at *
        have Hro := Lib.hid hro; have Hrnd := Lib.hid hrnd; have Hab := Lib.hid hab; have Hbe := Lib.hid hbe; have Hq := Lib.hid hq
        have He2 := Lib.hid hend.p2
        have Hel := Lib.hid (Nat.lt_of_le_of_lt hend.l1 (by have := hD.le; rw [hal] at this; exact this))
        have hvl := hsm.1
        rw [hvl] at Hs
        rw [hvl]
        clear hvl
        have Hadds := Lib.hid hadds
        clear hro hrnd hab hbe hq hend hadds hD hK hf hsm hrl hr hv hLe hal
        have hL16 : L.length ≤ 16 := h16
        have hL16' : decide ((16 : Int) < (L.length : Int)) = false := decide_eq_false (by omega)
        go_enter Tryz.func15, Tryz.ntmps15
        go_wp2_with fail
        refine Hp.out.mono ?_
        rintro e w1 ⟨g1, c1, rs1, rfl, hc1, ho1, hb1⟩
        have Hc1 := Lib.hid hc1; clear hc1
        have hs1 := Lib.hid (Hs.out w1 hb1)
        go_wp2_with fail
        refine hs1.out.mono ?_
        rintro e w2 ⟨rfl, hb2'⟩
        have ho2 := ho1.below hb2'
        have hb2 := hb1.trans (hb2'.mono hb1.size)
        have hlen : rs1.length = L.length := by rw [← Hc1.out, contents_length]
        have Hlen := Lib.hid hlen
        clear hs1 ho1 hb1 hb2' hlen h16
        go_wp2_with fail
        go_loopw [8, 9, 10] (fun uv dv kv wr => ∃ k : Nat, k ≤ L.length ∧ kv = .int .i64 k ∧ uv = .int .i64 (((upTo (abL v L) (beL L) k).1 : Nat) : Int) ∧ dv = .int .i64 (((upTo (abL v L) (beL L) k).2 : Nat) : Int) ∧ OwnRows wr w.heap.size g1 c1 rs1 ∧ Below w.heap.size w wr) (fun _ _ kv _ => L.length - (intOf kv).toNat)
        case atStart => exact ⟨0, Nat.zero_le _, rfl, rfl, rfl, ho2, hb2⟩
        case round =>
          clear ho2 hb2
          obtain ⟨k, hk, rfl, rfl, rfl, ho, hb⟩ := hrel
          by_cases hlt : k < L.length
          · have hkr : k < rs1.length := by rw [Hlen.out]; exact hlt
            have hR := Hro.out k hlt
            have hU := Hrnd.out k hlt
            have hd : upTo (abL v L) (beL L) (k + 1) = ((upTo (abL v L) (beL L) k).1 * (abL v L).getD k 0 / Nat.gcd ((upTo (abL v L) (beL L) k).1 * (abL v L).getD k 0) ((upTo (abL v L) (beL L) k).2 * (beL L).getD k 0), (upTo (abL v L) (beL L) k).2 * (beL L).getD k 0 / Nat.gcd ((upTo (abL v L) (beL L) k).1 * (abL v L).getD k 0) ((upTo (abL v L) (beL L) k).2 * (beL L).getD k 0)) := rfl
            rw [Hab.out k hlt, Hbe.out k hlt] at hU hd
            have hx0 : L.getD k [] = rs1[k].2.2 := by rw [← Hc1.out]; simp [contents, List.getD, hkr]
            rw [hx0] at hR hU hd
            have HOf : ∀ W, OwnRows W w.heap.size g1 c1 rs1 → W.cell? ⟨g1, k, none⟩ = some (rowVal rs1[k]) ∧ Own W w.heap.size rs1[k].1 rs1[k].2.1 rs1[k].2.2 := fun W h => ⟨by rw [h.1.cell k (by simpa using hkr)]; simp, h.2.1 _ (List.getElem_mem hkr)⟩
            generalize rs1[k] = ro at *
            obtain ⟨bo, co, r⟩ := ro
            have hRl : r.length = c.length := hR.rl
            have HO : Hid (∀ W, OwnRows W w.heap.size g1 c1 rs1 → W.cell? ⟨g1, k, none⟩ = some (Value.slice (some ⟨bo, 0, none⟩) c.length co) ∧ Own W w.heap.size bo co r) := Lib.hid (fun W h => by have := HOf W h; refine ⟨?_, this.2⟩; rw [this.1]; show some (Value.slice (some ⟨bo, 0, none⟩) r.length co) = _; rw [hRl])
            have hdot := hR.dot Hadds.out c.length (Nat.le_refl _)
            have hhei := hR.height
            have hd' : upTo (abL v L) (beL L) (k + 1) = ((upTo (abL v L) (beL L) k).1 * nS v r c.length / Nat.gcd ((upTo (abL v L) (beL L) k).1 * nS v r c.length) ((upTo (abL v L) (beL L) k).2 * sumN r), (upTo (abL v L) (beL L) k).2 * sumN r / Nat.gcd ((upTo (abL v L) (beL L) k).1 * nS v r c.length) ((upTo (abL v L) (beL L) k).2 * sumN r)) := hd
            have hU' : UpRnd (upTo (abL v L) (beL L) k).1 (upTo (abL v L) (beL L) k).2 (nS v r c.length) (sumN r) 0 := hU
            have Hpa := Lib.hid (fun W g2 c2 (h2 : Cells W g2 0 vv) (h3 : Cells W bo 0 r) => spec_PairingOf_any g2 0 c.length c2 bo 0 co vv r W Haddl.out hRl (by omega) h2 h3)
            have Hhe := Lib.hid (fun W (h3 : Cells W bo 0 r) => spec_HeightOf_any bo 0 c.length co r W hRl (by omega) h3)
            rw [hdot] at Hpa
            rw [hhei] at Hhe
            generalize (upTo (abL v L) (beL L) k).1 = s at *
            generalize (upTo (abL v L) (beL L) k).2 = t at *
            generalize nS v r c.length = x at *
            generalize sumN r = y at *
            obtain ⟨u1, u2, u3, u4, u5, u6, u7, u8, u9⟩ := hU'
            have hgc2 := fun W => spec_l26Gcd_any (s * x) (t * y) W
            generalize Nat.gcd (s * x) (t * y) = G at *
            have Hgc2 := Lib.hid hgc2
            have Hd := Lib.hid hd'
            have Hu8 := Lib.hid u8; have Hu9 := Lib.hid u9; clear u8 u9
            clear hd hd' hR hU hdot hhei HOf hgc2 hx0
            obtain ⟨wo, rfl⟩ : ∃ wo : World, wo = wr := ⟨_, rfl⟩
            obtain ⟨k1, hor⟩ := HO.out wo ho
            have u3' : ((G : Int) == 0) = false := by rw [beq_eq_false_iff_ne]; exact u3
            have hbD : Below w.heap.size w wo.drew := Below.drew hb
            have hoD : OwnRows wo.drew w.heap.size g1 c1 rs1 := ho
            have horD : Own wo.drew w.heap.size bo co r := hor
            have HrC := Lib.hid (fun WA WB (h1 : Below wo.drew.heap.size wo.drew WA) (h2 : Below WA.heap.size WA WB) => (((horD.below h1 horD.lt).below h2 (horD.below h1 horD.lt).lt).cells : Cells WB bo 0 r))
            have hbD' := Lib.hid hbD
            have hoD' := Lib.hid hoD
            have K1 : Hid (wo.drew.cell? ⟨g1, k, none⟩ = some (Value.slice (some ⟨bo, 0, none⟩) c.length co)) := Lib.hid k1
            clear hb ho hor hoD horD
            go_wp2_with fail
            go_region_held3 (fun W => W.cell? ⟨g1, k, none⟩ = some (Value.slice (some ⟨bo, 0, none⟩) c.length co))
              (first | with_reducible exact k1 | with_reducible exact keepCell hbA K1.out | with_reducible exact keepCell hbB (keepCell hbA K1.out) | with_reducible exact (cell_still hF _).trans (keepCell hbB (keepCell hbA K1.out)) | exact k1)
              (first
                | (go_at_call 36; (with_reducible refine (Hrho.out _ hbD).mono ?_); rintro e wA ⟨gA, cA, rfl, hoA, hbA⟩; rw [Honl.out])
                | (go_at_call 35; (with_reducible refine (Hadd.out _ (hbD.trans (hbA.mono hbD.size)) gA cA hoA.lt hoA.cells).mono ?_); rintro e wB ⟨gB, cB, rfl, hoB, hbB⟩; rw [Haddl.out])
                | (go_at_call 34; (with_reducible refine (Hpa.out _ gB cB hoB.cells (HrC.out _ _ hbA hbB)).mono ?_); rintro e wF ⟨rfl, hF⟩))
            have hb : Below w.heap.size w wF := below_still ((hbD'.out.trans (hbA.mono hbD'.out.size)).trans (hbB.mono (Nat.le_trans hbD'.out.size hbA.size))) hF
            have ho := ((hoD'.out.below hbA).below hbB).still hF
            obtain ⟨k2, hor2⟩ := HO.out wF ho
            have hc3 := Lib.hid (Hhe.out wF hor2.cells)
            clear hoA hbA hoB hbB hF k1 hbD hoD' hbD' HrC hor2
            go_wp2_with fail
            refine hc3.out.mono ?_
            rintro e wH ⟨rfl, hsH⟩
            have hb := below_still hb hsH
            have ho := ho.still hsH
            clear hsH hc3
            go_wp2_with fail
            refine (Hgc2.out _).mono ?_
            rintro e wI ⟨rfl, hsI⟩
            have hb := below_still hb hsI
            have ho := ho.still hsI
            clear hsI
            go_wp2_with fail
            go_roundw
            case rel => exact ⟨k + 1, by omega, by go_num, by rw [Hd.out, Hu8.out], by rw [Hd.out, Hu9.out], ho, hb⟩
            case measure => simp [intOf]; omega
          · obtain rfl : k = L.length := by omega
            have hq := Hq.out
            have hp2 := He2.out
            have hl1 := Hel.out
            generalize (upTo (abL v L) (beL L) L.length).1 = s at *
            generalize (upTo (abL v L) (beL L) L.length).2 = t at *
            have t0 : ((t : Int) == 0) = false := by rw [beq_eq_false_iff_ne]; omega
            have t0' : (t : Int) ≠ 0 := by omega
            have t1 := tdiv_nat s t
            have t2 := wrap_div (a := s) (b := t) (m := s) (Nat.le_refl _) hl1
            rw [hq] at t1 t2
            clear hq
            go_wp2_with fail
            go_ret2
            exact ⟨congrArg Ending.returned Hz.out.symm, hb⟩
      · have hb : dimB c v = false := by unfold dimB; rw [decide_eq_false h16, Bool.and_false]
        have Hz := Lib.hid (dimV_no hb)
        have hL16' : decide ((16 : Int) < ((coL c).length : Int)) = true := decide_eq_true (by omega)
        clear hb hf hr hv hrl hK hsm h16
        generalize coL c = L at *
        go_enter Tryz.func15, Tryz.ntmps15
        go_wp2_with fail
        refine Hp.out.mono ?_
        rintro e w1 ⟨g1, c1, rs1, rfl, -, -, hb1⟩
        have hs1 := Lib.hid (Hs.out w1 hb1)
        go_wp2_with fail
        refine hs1.out.mono ?_
        rintro e w2 ⟨rfl, hb2'⟩
        have hb2 := hb1.trans (hb2'.mono hb1.size)
        go_wp2_with fail
        go_ret2
        exact ⟨congrArg Ending.returned Hz.out.symm, hb2⟩
    · rw [decide_eq_false hsm] at Hs
      have hb : dimB c v = false := by unfold dimB; rw [decide_eq_false hsm, Bool.and_false]; rfl
      have Hz := Lib.hid (dimV_no hb)
      clear hb hf hr hv hrl hK hsm
      generalize coL c = L at *
      go_enter Tryz.func15, Tryz.ntmps15
      go_wp2_with fail
      refine Hp.out.mono ?_
      rintro e w1 ⟨g1, c1, rs1, rfl, -, -, hb1⟩
      have hs1 := Lib.hid (Hs.out w1 hb1)
      go_wp2_with fail
      refine hs1.out.mono ?_
      rintro e w2 ⟨rfl, hb2'⟩
      have hb2 := hb1.trans (hb2'.mono hb1.size)
      go_wp2_with fail
      go_ret2
      exact ⟨congrArg Ending.returned Hz.out.symm, hb2⟩
end Go.Proofs.YtmjneokgnnbekaaGreatDoor
