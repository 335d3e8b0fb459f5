/- The program's table of Kazhdan and Lusztig as it is read: shorter, mu. Contracts. copy(dst, src) of ints to a list of the call's own. slices.Concat of lists of integers that hold one at least: contract. Sums, differences and shifts of polynomials by the program: contracts. -/
import Derived.Test.YtobeigdjhepedaaGreatDoorG33
import Derived.Test.YtobeigdjhepedaaGreatDoorBase
import Derived.Laws.CopyOwn
import Derived.Test.YtobeigdjhepedaaGreatDoorG01
import Derived.Test.YtobeigdjhepedaaGreatDoorG05
import Derived.Lib.AppendZeros
import Derived.Test.YtobeigdjhepedaaGreatDoorG32
namespace Go.Proofs.YtobeigdjhepedaaGreatDoor
set_option maxRecDepth 100000
open Go.RowKit Game

/-- the struct that holds the elements, the products and the polynomials -/
structure KzF (w : World) (k gl cl gt ct gp cp N : Nat) : Prop where
  f0 : w.cell? ⟨k, 0, none⟩ = some (Value.slice (some ⟨gl, 0, none⟩) N cl)
  f1 : w.cell? ⟨k, 1, none⟩ = some (Value.slice (some ⟨gt, 0, none⟩) N ct)
  f3 : w.cell? ⟨k, 3, none⟩ = some (Value.slice (some ⟨gp, 0, none⟩) N cp)
  lt : k < w.heap.size
/-- one polynomial of the table is read -/
def PolAt (w : World) (gp N i j : Nat) (p : List Int) : Prop :=
  ∃ gi ci b cb, w.cell? ⟨gp, i, none⟩ = some (Value.slice (some ⟨gi, 0, none⟩) N ci) ∧ w.cell? ⟨gi, j, none⟩ = some (Value.slice (some ⟨b, 0, none⟩) p.length cb) ∧ p.length ≤ cb ∧ gi < w.heap.size ∧ b < w.heap.size ∧ Cells w b 0 p
theorem KzF.below {w w' : World} {k gl cl gt ct gp cp N : Nat} (h : KzF w k gl cl gt ct gp cp N) (hb : Below w.heap.size w w') : KzF w' k gl cl gt ct gp cp N :=
  ⟨(hb.cell (p := ⟨k, 0, none⟩) h.lt).trans h.f0, (hb.cell (p := ⟨k, 1, none⟩) h.lt).trans h.f1, (hb.cell (p := ⟨k, 3, none⟩) h.lt).trans h.f3, Nat.lt_of_lt_of_le h.lt hb.size⟩
theorem PolAt.below {w w' : World} {gp N i j : Nat} {p : List Int} (h : PolAt w gp N i j p) (hg : gp < w.heap.size) (hb : Below w.heap.size w w') : PolAt w' gp N i j p := by
  obtain ⟨gi, ci, b, cb, h1, h2, h3, h4, h5, h6⟩ := h
  exact ⟨gi, ci, b, cb, (hb.cell (p := ⟨gp, i, none⟩) hg).trans h1, (hb.cell (p := ⟨gi, j, none⟩) h4).trans h2, h3, Nat.lt_of_lt_of_le h4 hb.size, Nat.lt_of_lt_of_le h5 hb.size, h6.below hb h5⟩

set_option maxHeartbeats 1000000 in
theorem impl_shorter_ok (k gl cl gt ct gp cp N n s x : Nat) (L T : List (List Int)) (w : World) (H : KlOk n N L T) (hF : KzF w k gl cl gt ct gp cp N) (hL : Rows2 w gl 0 L) (hT : Rows2 w gt 0 T) (hs : s < n) (hx : x < N) :
    Calls Tryz.prog 85 #[.pointer (some ⟨k, 0, none⟩), .int .i64 (s : Int), .int .i64 (x : Int)] w (Reads w (.bool (shorter L T s x))) := by
  obtain ⟨ht, hy⟩ := H.tab x s hx hs
  obtain ⟨g1, o1, c1, a1, -, -, -⟩ := hL x (by rw [H.len]; exact hx)
  obtain ⟨g2, o2, c2, b1, -, -, b4⟩ := hT x (by rw [H.tlen]; exact hx)
  obtain ⟨g3, o3, c3, d1, -, -, -⟩ := hL (tabA T x s) (by rw [H.len]; exact hy)
  have b5 := b4 s (by rw [H.row x hx]; exact hs)
  rw [ht] at b5
  rw [H.row x hx] at b1
  have f0 := hF.f0
  have f1 := hF.f1
  have hsh : shorter L T s x = decide (lenA L (tabA T x s) < lenA L x) := rfl
  rw [hsh]
  change w.cell? _ = some (Value.slice (some ⟨_, _, none⟩) (lenA L x) _) at a1
  change w.cell? _ = some (Value.slice (some ⟨_, _, none⟩) (lenA L (tabA T x s)) _) at d1
  generalize lenA L (tabA T x s) = p at *
  generalize lenA L x = q at *
  generalize tabA T x s = y at *
  rw [Nat.zero_add] at a1 b1 d1
  clear hL hT H hF b4 ht hsh
  go_enter Tryz.func85, Tryz.ntmps85
  go_wp2_with fail
  go_quiet (fail)
  go_wp2_with fail
  go_ret
  exact ⟨rfl, (by first | exact ⟨_, rfl⟩ | exact ⟨0, rfl⟩ | exact still2 _ _ _ | exact still3 _ _ _ _)⟩

set_option maxHeartbeats 1000000 in
theorem impl_mu_ok (k gl cl gt ct gp cp N n z v : Nat) (L T : List (List Int)) (p : List Int) (w : World) (H : KlOk n N L T) (hF : KzF w k gl cl gt ct gp cp N) (hL : Rows2 w gl 0 L) (hz : z < N) (hv : v < N) (hp : lenA L z < lenA L v → PolAt w gp N z v p) :
    Calls Tryz.prog 84 #[.pointer (some ⟨k, 0, none⟩), .int .i64 (z : Int), .int .i64 (v : Int)] w (Reads w (.int .i64 (muI L p z v))) := by
  obtain ⟨g1, o1, c1, a1, -, -, -⟩ := hL v (by rw [H.len]; exact hv)
  obtain ⟨g3, o3, c3, d1, -, -, -⟩ := hL z (by rw [H.len]; exact hz)
  have f0 := hF.f0
  have f3 := hF.f3
  have hdef : muI L p z v = if lenA L v ≤ lenA L z ∨ (lenA L v - lenA L z) % 2 = 0 ∨ p.length ≤ (lenA L v - lenA L z - 1) / 2 then 0 else p.getD ((lenA L v - lenA L z - 1) / 2) 0 := rfl
  rw [hdef]
  have hs1 := H.short v
  have hs2 := H.short z
  change w.cell? _ = some (Value.slice (some ⟨_, _, none⟩) (lenA L v) _) at a1
  change w.cell? _ = some (Value.slice (some ⟨_, _, none⟩) (lenA L z) _) at d1
  generalize lenA L v = a at *
  generalize lenA L z = b at *
  rw [Nat.zero_add] at a1 d1
  clear hL H hF hdef
  have ew : IntKind.i64.wrap ((a : Int) - (b : Int)) = (a : Int) - (b : Int) := IntWalk.i64_in _ (by omega)
  by_cases h0 : a ≤ b
  · rw [if_pos (.inl h0)]
    have d0 : decide ((a : Int) - (b : Int) ≤ 0) = true := decide_eq_true (by omega)
    go_enter Tryz.func84, Tryz.ntmps84
    go_wp2_with fail
    go_quiet (fail)
    go_wp2_with fail
    go_ret
    exact ⟨rfl, (by first | exact ⟨_, rfl⟩ | exact ⟨0, rfl⟩ | exact still2 _ _ _ | exact still3 _ _ _ _)⟩
  · obtain ⟨D, rfl⟩ : ∃ D, a = b + D := ⟨a - b, by omega⟩
    obtain ⟨gi, ci, bb, cb, p1, p2, -, -, -, p4⟩ := hp (by omega)
    have ed : b + D - b = D := by omega
    rw [ed]
    have eD : ((b + D : Nat) : Int) - (b : Int) = (D : Int) := by omega
    rw [eD] at ew
    have eD2 : (b : Int) + (D : Int) - (b : Int) = (D : Int) := by omega
    have d0 : decide ((D : Int) ≤ 0) = false := decide_eq_false (by omega)
    by_cases h1 : D % 2 = 0
    · rw [if_pos (.inr (.inl h1))]
      have d1 : (((D : Int) % 2) == 0) = true := by rw [beq_iff_eq]; omega
      go_enter Tryz.func84, Tryz.ntmps84
      go_wp2_with fail
      go_quiet (fail)
      go_wp2_with fail
      go_ret
      exact ⟨rfl, (by first | exact ⟨_, rfl⟩ | exact ⟨0, rfl⟩ | exact still2 _ _ _ | exact still3 _ _ _ _)⟩
    have d1 : (((D : Int) % 2) == 0) = false := by rw [beq_eq_false_iff_ne]; omega
    obtain ⟨q, hq⟩ : ∃ q : Nat, D = 2 * q + 1 := ⟨D / 2, by omega⟩
    have eq2 : (D - 1) / 2 = q := by omega
    rw [eq2]
    have ew2 : IntKind.i64.wrap ((D : Int) - 1) = (D : Int) - 1 := IntWalk.i64_in _ (by omega)
    have e5 : ((D : Int) - 1).tdiv 2 = (q : Int) := by rw [show (D : Int) - 1 = 2 * (q : Int) by omega, Int.mul_tdiv_cancel_left _ (by decide)]
    have e6 : ((D : Int) - 1) / 2 = (q : Int) := by omega
    by_cases h2 : p.length ≤ q
    · rw [if_pos (.inr (.inr h2))]
      have d2 : decide ((p.length : Int) ≤ (q : Int)) = true := decide_eq_true (by omega)
      have hD0 : ¬ D = 0 := by omega
      clear p4 hq eq2
      generalize p.length = l at *
      go_enter Tryz.func84, Tryz.ntmps84
      go_wp2_with fail
      go_quiet (fail)
      go_wp2_with fail
      go_ret
      exact ⟨rfl, (by first | exact ⟨_, rfl⟩ | exact ⟨0, rfl⟩ | exact still2 _ _ _ | exact still3 _ _ _ _)⟩
    · rw [if_neg (by omega)]
      have d2 : decide ((p.length : Int) ≤ (q : Int)) = false := decide_eq_false (by omega)
      have p5 := p4 q (by omega)
      have b1 : (q : Int) < (p.length : Int) := by omega
      generalize p.getD q 0 = y at *
      have hD0 : ¬ D = 0 := by omega
      clear p4 hq eq2
      generalize p.length = l at *
      rw [Nat.zero_add] at p5
      go_enter Tryz.func84, Tryz.ntmps84
      go_wp2_with fail
      go_quiet (fail)
      go_wp2_with fail
      go_ret
      exact ⟨rfl, (by first | exact ⟨_, rfl⟩ | exact ⟨0, rfl⟩ | exact still2 _ _ _ | exact still3 _ _ _ _)⟩
end Go.Proofs.YtobeigdjhepedaaGreatDoor
namespace Go.Proofs.YtobeigdjhepedaaGreatDoor
set_option maxRecDepth 100000
open Go.RowKit

theorem wpList_copy_ints {w : World} {ops : Array Oper} {rest : List Oper} {o : Oper} {a : Act} {Q : Exit → Act → World → Prop} (hgd : o.guard = none) (d s : Operand)
    (ho : o.op = .call { callee := .builtin .copy, args := #[d, s], argTypes := #[28, 28] })
    (B g n : Nat) (xs : List Int) (hxn : xs.length = n) (hown : Own w B g n xs) (g2 o2 n2 c2 : Nat) (ys : List Int) (hn2 : ys.length = n2) (hle : n2 ≤ n) (hc : Cells w g2 o2 ys)
    (hd : a.eval d = (Value.slice (some ⟨g, 0, none⟩) n n)) (hs : a.eval s = (Value.slice (some ⟨g2, o2, none⟩) n2 c2))
    (h : ∀ w', Own w' B g n (ys ++ xs.drop n2) → w.grownBy w' (some g) → wpList Tryz.prog ops Q rest (a.put o.dst (.int .i64 (n2 : Int))) w') :
    wpList Tryz.prog ops Q (o :: rest) a w := by
  subst hxn; subst hn2
  rcases hown.2 with ⟨h', _⟩ | ⟨g1, cap1, cur, hv, hb, hh, hn, hm, hs1, htk⟩
  · simp at h'
  simp only [Value.slice.injEq, Option.some.injEq, Addr.mk.injEq, and_true, true_and] at hv
  obtain ⟨rfl, rfl⟩ := hv
  rw [Nat.mul_one] at hs1 htk
  have hcl : cur.toList = xs.map (Value.int .i64) := by rw [← htk, ← hs1, ← Array.length_toList, List.take_length]
  refine wpList_copy_own hgd d s 28 28 ho 3 Tryz.underlying28 (by kernel_rfl) g 0 xs.length xs.length ⟨g2, o2, none⟩ ys.length c2 hd hs cur 3 hh (ys.map (Value.int .i64)) (by rw [List.length_map]; exact (Nat.min_eq_left hle).symm) ?_ (by rw [List.length_map, hs1]; omega) (ints_oneCell _ _) ?_
  · intro j v hj
    have hj' : j < ys.length := by have := (List.getElem?_eq_some_iff.1 hj).1; simpa using this
    have := hc j hj'
    rw [Addr.add_lit, this]
    simp [hj'] at hj
    rw [← hj]
    simp [List.getD, hj']
  · have e : goInt (ys.map (Value.int .i64)).length = .int .i64 (ys.length : Int) := by rw [List.length_map]; rfl
    rw [e, hcl]
    refine h _ ?_ ⟨rfl, rfl, rfl, by simp, fun k _ hk => setRow_other w g k _ (fun e => hk (by rw [e]))⟩
    have hlen : (ys ++ xs.drop ys.length).length = xs.length := by rw [List.length_append, List.length_drop]; omega
    have hcs : (List.take 0 (xs.map (Value.int .i64)) ++ (ys.map (Value.int .i64) ++ List.drop (0 + (ys.map (Value.int .i64)).length) (xs.map (Value.int .i64)))) = (ys ++ xs.drop ys.length).map (Value.int .i64) := by
      rw [List.take_zero, List.nil_append, Nat.zero_add, List.length_map, List.map_append, List.map_drop]
    rw [hcs]
    unfold Own
    rw [hlen]
    refine ⟨by rw [List.length_map, hlen, Nat.mul_one], .inr ⟨g, _, _, rfl, hb, setRow_heap w g cur _ _ _ hh, Nat.le_refl _, hm, by simp; omega, ?_⟩⟩
    show List.take (xs.length * 1) ((ys ++ xs.drop ys.length).map (Value.int .i64)) = _
    rw [Nat.mul_one]
    exact List.take_of_length_le (by rw [List.length_map, hlen]; exact Nat.le_refl _)
end Go.Proofs.YtobeigdjhepedaaGreatDoor
namespace Go.Proofs.YtobeigdjhepedaaGreatDoor
set_option maxRecDepth 100000
open Go.RowKit

theorem zeros_own (w : World) (B cap : Nat) (Z : Array Value) (hB : B ≤ w.heap.size) (hZ : Z.size = cap) (hcap : cap ≤ maxLen) : Own (w.drew.alloc (.cells Z 3)) B w.heap.size cap [] :=
  ⟨rfl, .inr ⟨w.heap.size, cap, Z, rfl, hB, heap_alloc_new w.drew _, Nat.zero_le _, hcap, by rw [hZ, Nat.mul_one], by simp⟩⟩
theorem wpList_append_ints_n {w : World} {ops : Array Oper} {rest : List Oper} {o : Oper} {a : Act} {Q : Exit → Act → World → Prop} (hgd : o.guard = none) (s x : Operand)
    (ho : o.op = .call { callee := .builtin .append, args := #[s, x], argTypes := #[28, 28] })
    (B g cap n1 : Nat) (xs : List Int) (hn1 : xs.length = n1) (hown : Own w B g cap xs) (g2 o2 n2 c2 : Nat) (ys : List Int) (hn2 : ys.length = n2) (hc : Cells w g2 o2 ys)
    (hs : a.eval s = (Value.slice (some ⟨g, 0, none⟩) n1 cap)) (hx : a.eval x = (Value.slice (some ⟨g2, o2, none⟩) n2 c2)) (hlen : n1 + n2 ≤ 1099511627776)
    (h : ∀ g' cap' w', Own w' B g' cap' (xs ++ ys) → w.grownBy w' (some g) → (g' = g ∨ g' = w.heap.size) → wpList Tryz.prog ops Q rest (a.put o.dst (Value.slice (some ⟨g', 0, none⟩) (n1 + n2) cap')) w') :
    wpList Tryz.prog ops Q (o :: rest) a w := by
  subst hn1; subst hn2
  exact wpList_append_ints hgd s x ho B g cap xs hown g2 o2 c2 ys hc hs hx hlen h

set_option maxHeartbeats 1000000 in
theorem slices_Grow_nil (n : Nat) (w : World) (h1 : 1 ≤ n) (hn : n ≤ 1048576) :
    Calls Tryz.prog 141 #[.slice none 0 0, .int .i64 n] w (fun e w' => ∃ g cap, e = .returned (Value.slice (some ⟨g, 0, none⟩) 0 cap) ∧ Own w' w.heap.size g cap [] ∧ Below w.heap.size w w') := by
  obtain ⟨i0, hi, hz0, hz1, hz2⟩ := info_parts info3
  have happ := Lib.run_append_nil_zeros (P := Tryz.prog) w 28 3 28 3 i0 (.int .i64 0) .i64 .i64 Tryz.underlying28 Tryz.underlying3 hi hz0 n (by omega) (by omega) (by omega) (by rw [hz2]; omega)
  have hge : n ≤ grownCap w n 0 3 := grownCap_ge w _ 0 _
  have hle : grownCap w n 0 3 ≤ maxLen := grownCap_le_maxLen w _ 0 _ (by unfold maxLen; omega)
  generalize grownCap w n 0 3 = cap at *
  have hZs : (Builtin.zeroCells (Value.int .i64 0).cells n ++ Builtin.zeroCells (Value.int .i64 0).cells (cap - n)).size = cap := by simp [size_zeroCells, Value.cells]; omega
  generalize Builtin.zeroCells (Value.int .i64 0).cells n ++ Builtin.zeroCells (Value.int .i64 0).cells (cap - n) = Z at *
  have hown := zeros_own w w.heap.size cap Z (Nat.le_refl _) hZs hle
  have hb : Below w.heap.size w (w.drew.alloc (.cells Z 3)) := (Below.drew (Below.refl _ _)).alloc (Nat.le_refl _) _
  have Hown := Lib.hid hown; have Hb := Lib.hid hb
  clear hown hb hZs hi hz0 hz1 hz2
  go_enter Tryz.func141, Tryz.ntmps141
  go_wp2_with (at_builtin; refine Lib.wpList_append_run w rfl _ _ _ _ rfl _ _ rfl rfl _ _ happ ?_)
  go_wp2_with fail
  go_ret
  exact ⟨_, _, rfl, Hown.out, Hb.out⟩

def lensTo (rows : List (List Int)) : Nat → Nat
  | 0 => 0
  | k + 1 => lensTo rows k + (rows.getD k []).length
def catTo (rows : List (List Int)) : Nat → List Int
  | 0 => []
  | k + 1 => catTo rows k ++ rows.getD k []
theorem catTo_length (rows : List (List Int)) : ∀ k, (catTo rows k).length = lensTo rows k
  | 0 => rfl
  | k + 1 => by simp only [catTo, lensTo, List.length_append, catTo_length rows k]
theorem lensTo_mono (rows : List (List Int)) {k m : Nat} (h : k ≤ m) : lensTo rows k ≤ lensTo rows m := by
  induction m with
  | zero => obtain rfl : k = 0 := by omega
            exact Nat.le_refl _
  | succ m ih =>
    by_cases e : k = m + 1
    · subst e; exact Nat.le_refl _
    · have := ih (by omega)
      simp only [lensTo]; omega

set_option maxHeartbeats 2000000 in
theorem slices_Concat_any (g o n cp : Nat) (rows : List (List Int)) (w : World) (hn : rows.length = n) (hl : rows.length ≤ 1048576) (h1 : 1 ≤ lensTo rows rows.length) (hm : lensTo rows rows.length ≤ 1048576) (hg : g < w.heap.size) (hr : Rows2 w g o rows) :
    Calls Tryz.prog 107 #[(Value.slice (some ⟨g, o, none⟩) n cp)] w (GotInts w (catTo rows rows.length)) := by
  subst hn
  have Hr := Lib.hid hr; clear hr
  have Hm := Lib.hid (fun k (hk : k ≤ rows.length) => Nat.le_trans (lensTo_mono rows hk) hm)
  go_enter Tryz.func107, Tryz.ntmps107
  go_wp2
  go_loopw [3, 11] (fun sv kv wr => ∃ k q : Nat, k ≤ rows.length ∧ kv = .int .i64 k ∧ sv = .int .i64 (lensTo rows k) ∧ wr = w.drewN q) (fun _ kv _ => rows.length - (intOf kv).toNat)
  case atStart => exact ⟨0, 0, Nat.zero_le _, rfl, rfl, rfl⟩
  case round =>
    obtain ⟨k, q, hk, rfl, rfl, rfl⟩ := hrel
    by_cases hlt : k < rows.length
    · obtain ⟨gj, oj, cj, q1, q2, q3, q4⟩ := Hr.out k hlt
      have hs : lensTo rows (k + 1) = lensTo rows k + (rows.getD k []).length := rfl
      have hmk := Hm.out (k + 1) hlt
      rw [hs] at hmk
      have Hs := Lib.hid hs
      clear hs q4
      generalize (rows.getD k []).length = rl at *
      generalize lensTo rows k = a at *
      go_wp2_with fail
      go_roundw
      case rel => exact ⟨k + 1, q, by omega, by go_num, by rw [Hs.out]; go_num, rfl⟩
      case measure => simp [intOf]; omega
    · obtain rfl : k = rows.length := by omega
      have hcall := slices_Grow_nil (lensTo rows rows.length) (w.drewN q) h1 hm
      have Hcall := Lib.hid hcall
      clear hcall
      go_wp2_with fail
      refine Hcall.out.mono ?_
      rintro e w1 ⟨g1, c1, rfl, ho1, hb1⟩
      have hb0 : Below w.heap.size w w1 := (below_drewN' (B := w.heap.size) w q).trans hb1
      have ho0 : Own w1 w.heap.size g1 c1 [] := ho1
      clear h1 Hcall hb1 ho1
      go_wp2_with fail
      go_loopw [6, 27] (fun ov kv wi => ∃ k g' c' : Nat, k ≤ rows.length ∧ kv = .int .i64 k ∧ ov = (Value.slice (some ⟨g', 0, none⟩) (lensTo rows k) c') ∧ Own wi w.heap.size g' c' (catTo rows k) ∧ Below w.heap.size w wi) (fun _ kv _ => rows.length - (intOf kv).toNat)
      case atStart => exact ⟨0, g1, c1, Nat.zero_le _, rfl, rfl, ho0, hb0⟩
      case round =>
        clear ho0 hb0
        obtain ⟨k, g', c', hk, rfl, rfl, ho, hb⟩ := hrel
        by_cases hlt : k < rows.length
        · obtain ⟨gj, oj, cj, q1, q2, q3, q4⟩ := (Hr.out.below hb hg) k hlt
          have hmk := Hm.out (k + 1) hlt
          have hs : lensTo rows (k + 1) = lensTo rows k + (rows.getD k []).length := rfl
          have hcs : catTo rows (k + 1) = catTo rows k ++ rows.getD k [] := rfl
          have hcl := catTo_length rows k
          rw [hs] at hmk
          have Hs := Lib.hid hs; have Hcs := Lib.hid hcs; have Hcl := Lib.hid hcl
          clear hs hcs hcl
          generalize lensTo rows k = a at *
          generalize catTo rows k = A at *
          generalize hrw : rows.getD k [] = r at *
          generalize hrl : r.length = rl at *
          go_wp2_with (at_builtin; refine wpList_append_ints_n rfl _ _ rfl w.heap.size g' c' a A Hcl.out ho gj oj rl cj r hrl q4 rfl rfl (by omega) ?_)
          intro g3 c3 w3 ho3 hg3 hor3
          rw [← Hcs.out] at ho3
          have hb3 := hb.grown hg3 hb.size (by intro j hj; cases hj; exact ho.base)
          go_wp2_with fail
          go_roundw
          case rel => exact ⟨k + 1, g3, c3, by omega, by go_num, by rw [Hs.out], ho3, hb3⟩
          case measure => simp [intOf]; omega
        · obtain rfl : k = rows.length := by omega
          go_wp2
          go_ret
          exact GotInts.mk' g' c' (catTo_length _ _) ho hb
end Go.Proofs.YtobeigdjhepedaaGreatDoor
namespace Go.Proofs.YtobeigdjhepedaaGreatDoor
set_option maxRecDepth 100000
open Go.RowKit

/-- a polynomial with t places of another one added, in n places -/
def addN (f : Int → Int → Int) (a b : List Int) (n t : Nat) : List Int := (List.range n).map fun i => if i < t ∧ i < b.length then f (a.getD i 0) (b.getD i 0) else a.getD i 0
theorem addN_length (f : Int → Int → Int) (a b : List Int) (n t : Nat) : (addN f a b n t).length = n := by simp [addN]
theorem addN_zero {f : Int → Int → Int} {a b : List Int} {n : Nat} (h : a.length ≤ n) : addN f a b n 0 = a ++ (List.replicate n (0 : Int)).drop a.length := by
  refine List.ext_getElem (by simp [addN]; omega) fun i h1 h2 => ?_
  simp only [addN, Nat.not_lt_zero, false_and, ↓reduceIte, List.getElem_map, List.getElem_range]
  by_cases hi : i < a.length
  · rw [List.getElem_append_left hi]; simp [List.getD, hi]
  · rw [List.getElem_append_right (by omega)]; simp [List.getD, Nat.not_lt.1 hi]
theorem addN_get {f : Int → Int → Int} {a b : List Int} {n t : Nat} (h : t < n) : (addN f a b n t).getD t 0 = a.getD t 0 := by
  simp [addN, List.getD, h]
theorem addN_succ {f : Int → Int → Int} {a b : List Int} {n t : Nat} (hb : t < b.length) : addN f a b n (t + 1) = (addN f a b n t).set t (f (a.getD t 0) (b.getD t 0)) := by
  refine List.ext_getElem (by simp [addN]) fun i h1 h2 => ?_
  rw [List.getElem_set]
  simp only [addN, List.getElem_map, List.getElem_range]
  by_cases e : t = i
  · subst e
    rw [if_pos rfl, if_pos ⟨by omega, hb⟩]
  · rw [if_neg e]
    by_cases h : i < t ∧ i < b.length
    · rw [if_pos ⟨by omega, h.2⟩, if_pos h]
    · rw [if_neg (by omega), if_neg h]
theorem addN_full (f : Int → Int → Int) (a b : List Int) (n : Nat) : addN f a b n b.length = (List.range n).map fun i => if i < b.length then f (a.getD i 0) (b.getD i 0) else a.getD i 0 := by
  unfold addN
  congr 1
  funext i
  by_cases h : i < b.length
  · rw [if_pos ⟨h, h⟩, if_pos h]
  · rw [if_neg (fun e => h e.2), if_neg h]


set_option maxHeartbeats 2000000 in
theorem impl_AddPoly_any (g1 o1 n1 c1 g2 o2 n2 c2 : Nat) (a b : List Int) (w : World) (hn1 : a.length = n1) (hn2 : b.length = n2) (hx : a.length ≤ 100000) (hy : b.length ≤ 100000)
    (hg1 : g1 < w.heap.size) (hg2 : g2 < w.heap.size) (hc1 : Cells w g1 o1 a) (hc2 : Cells w g2 o2 b) :
    Calls Tryz.prog 112 #[(Value.slice (some ⟨g1, o1, none⟩) n1 c1), (Value.slice (some ⟨g2, o2, none⟩) n2 c2)] w (GotInts w (addP a b)) := by
  have Hn1 := Lib.hid hn1; have Hn2 := Lib.hid hn2
  rw [hn1] at hx
  rw [hn2] at hy
  obtain ⟨M, hM⟩ : ∃ M, max n1 n2 = M := ⟨_, rfl⟩
  have hMI : max (n1 : Int) (n2 : Int) = (M : Int) := by omega
  have hM1 : M ≤ 100000 := by omega
  have hM2 : n1 ≤ M := by omega
  have hM3 : n2 ≤ M := by omega
  have hP : addP a b = trim (addN (fun x y => wrap64 (x + y)) a b M n2) := by
    rw [← Hn2.out, addN_full, ← hM, ← Hn1.out, ← Hn2.out]; rfl
  rw [hP]
  have hz0 := addN_zero (f := fun x y => wrap64 (x + y)) (a := a) (b := b) (n := M) (by rw [Hn1.out]; exact hM2)
  rw [hn1, List.drop_replicate] at hz0
  have Hz0 := Lib.hid hz0
  clear hn1 hn2 hM hP hz0
  go_enter Tryz.func112, Tryz.ntmps112
  go_wp2_with (at_make; refine wpList_make_ints rfl _ _ rfl w.heap.size M _ rfl rfl rfl (by omega) (Nat.le_refl _) ?_)
  intro w1 ho1 hg1'
  have hb1 := (Below.refl w.heap.size w).grown hg1' (Nat.le_refl _) (by intro t ht; cases ht)
  have hc1' := hc1.below hb1 hg1
  go_wp2_with (refine wpList_copy_ints (o := ⟨some 16, _, _, _, _, _⟩) rfl (.tmp 14) (.tmp 15) rfl w.heap.size w.heap.size M (List.replicate M 0) (by simp) ho1 g1 o1 n1 c1 a Hn1.out hM2 hc1' rfl rfl ?_)
  intro w2 ho2 hg2'
  rw [← Hz0.out] at ho2
  have hb2 := hb1.grown hg2' hb1.size (by intro t ht; cases ht; exact Nat.le_refl _)
  clear ho1 hg1' hc1' hb1 hg2'
  go_wp2_with fail
  go_loopw [19] (fun iv wr => ∃ i : Nat, i ≤ n2 ∧ iv = .int .i64 (i : Nat) ∧ Own wr w.heap.size w.heap.size M (addN (fun x y => wrap64 (x + y)) a b M i) ∧ Below w.heap.size w wr) (fun iv _ => n2 - (intOf iv).toNat)
  case atStart => exact ⟨0, Nat.zero_le _, rfl, ho2, hb2⟩
  case round =>
    clear ho2 hb2
    obtain ⟨i, hi, rfl, ho, hb⟩ := hrel
    have Hl := Lib.hid (addN_length (fun x y => wrap64 (x + y)) a b M i)
    by_cases hlt : i < n2
    · have q2 := hc2.below hb hg2 i (by rw [Hn2.out]; exact hlt)
      have Hs := Lib.hid (addN_succ (f := fun x y => wrap64 (x + y)) (a := a) (b := b) (n := M) (t := i) (by rw [Hn2.out]; exact hlt))
      have q1 := ho.cell i (by rw [Hl.out]; omega)
      rw [addN_get (by omega)] at q1
      have f1 := ho.frozen i
      have hlI : (i : Int) < (M : Int) := by omega
      generalize a.getD i 0 = x at *
      generalize b.getD i 0 = y at *
      have hset := ho.set i (wrap64 (x + y))
      rw [← Hs.out] at hset
      have Hset := Lib.hid hset.1
      have hb3 := hb.grown hset.2 hb.size (by intro t ht; cases ht; exact Nat.le_refl _)
      clear hset
      go_wp2_with fail
      go_roundw
      case rel => exact ⟨i + 1, by omega, by go_num, Hset.out, hb3⟩
      case measure => simp [intOf]; omega
    · obtain rfl : i = n2 := by omega
      have T1 := Lib.hid (impl_TrimPoly_any w.heap.size 0 M M _ wr Hl.out (by rw [Hl.out]; omega) (Nat.le_refl _) ho.lt ho.cells)
      clear ho
      go_wp2_with fail
      refine T1.out.mono ?_
      rintro e w3 ⟨g3, c3, rfl, ho3, hb3⟩
      go_wp2_with fail
      go_ret
      exact ⟨g3, c3, rfl, ho3.mono hb.size, hb.trans (hb3.mono hb.size)⟩
 
set_option maxHeartbeats 2000000 in
theorem impl_SubPoly_any (g1 o1 n1 c1 g2 o2 n2 c2 : Nat) (a b : List Int) (w : World) (hn1 : a.length = n1) (hn2 : b.length = n2) (hx : a.length ≤ 100000) (hy : b.length ≤ 100000)
    (hg1 : g1 < w.heap.size) (hg2 : g2 < w.heap.size) (hc1 : Cells w g1 o1 a) (hc2 : Cells w g2 o2 b) :
    Calls Tryz.prog 114 #[(Value.slice (some ⟨g1, o1, none⟩) n1 c1), (Value.slice (some ⟨g2, o2, none⟩) n2 c2)] w (GotInts w (subP' a b)) := by
  have Hn1 := Lib.hid hn1; have Hn2 := Lib.hid hn2
  rw [hn1] at hx
  rw [hn2] at hy
  obtain ⟨M, hM⟩ : ∃ M, max n1 n2 = M := ⟨_, rfl⟩
  have hMI : max (n1 : Int) (n2 : Int) = (M : Int) := by omega
  have hM1 : M ≤ 100000 := by omega
  have hM2 : n1 ≤ M := by omega
  have hM3 : n2 ≤ M := by omega
  have hP : subP' a b = trim (addN (fun x y => wrap64 (x - y)) a b M n2) := by
    rw [← Hn2.out, addN_full, ← hM, ← Hn1.out, ← Hn2.out]; rfl
  rw [hP]
  have hz0 := addN_zero (f := fun x y => wrap64 (x - y)) (a := a) (b := b) (n := M) (by rw [Hn1.out]; exact hM2)
  rw [hn1, List.drop_replicate] at hz0
  have Hz0 := Lib.hid hz0
  clear hn1 hn2 hM hP hz0
  go_enter Tryz.func114, Tryz.ntmps114
  go_wp2_with (at_make; refine wpList_make_ints rfl _ _ rfl w.heap.size M _ rfl rfl rfl (by omega) (Nat.le_refl _) ?_)
  intro w1 ho1 hg1'
  have hb1 := (Below.refl w.heap.size w).grown hg1' (Nat.le_refl _) (by intro t ht; cases ht)
  have hc1' := hc1.below hb1 hg1
  go_wp2_with (refine wpList_copy_ints (o := ⟨some 16, _, _, _, _, _⟩) rfl (.tmp 14) (.tmp 15) rfl w.heap.size w.heap.size M (List.replicate M 0) (by simp) ho1 g1 o1 n1 c1 a Hn1.out hM2 hc1' rfl rfl ?_)
  intro w2 ho2 hg2'
  rw [← Hz0.out] at ho2
  have hb2 := hb1.grown hg2' hb1.size (by intro t ht; cases ht; exact Nat.le_refl _)
  clear ho1 hg1' hc1' hb1 hg2'
  go_wp2_with fail
  go_loopw [19] (fun iv wr => ∃ i : Nat, i ≤ n2 ∧ iv = .int .i64 (i : Nat) ∧ Own wr w.heap.size w.heap.size M (addN (fun x y => wrap64 (x - y)) a b M i) ∧ Below w.heap.size w wr) (fun iv _ => n2 - (intOf iv).toNat)
  case atStart => exact ⟨0, Nat.zero_le _, rfl, ho2, hb2⟩
  case round =>
    clear ho2 hb2
    obtain ⟨i, hi, rfl, ho, hb⟩ := hrel
    have Hl := Lib.hid (addN_length (fun x y => wrap64 (x - y)) a b M i)
    by_cases hlt : i < n2
    · have q2 := hc2.below hb hg2 i (by rw [Hn2.out]; exact hlt)
      have Hs := Lib.hid (addN_succ (f := fun x y => wrap64 (x - y)) (a := a) (b := b) (n := M) (t := i) (by rw [Hn2.out]; exact hlt))
      have q1 := ho.cell i (by rw [Hl.out]; omega)
      rw [addN_get (by omega)] at q1
      have f1 := ho.frozen i
      have hlI : (i : Int) < (M : Int) := by omega
      generalize a.getD i 0 = x at *
      generalize b.getD i 0 = y at *
      have hset := ho.set i (wrap64 (x - y))
      rw [← Hs.out] at hset
      have Hset := Lib.hid hset.1
      have hb3 := hb.grown hset.2 hb.size (by intro t ht; cases ht; exact Nat.le_refl _)
      clear hset
      go_wp2_with fail
      go_roundw
      case rel => exact ⟨i + 1, by omega, by go_num, Hset.out, hb3⟩
      case measure => simp [intOf]; omega
    · obtain rfl : i = n2 := by omega
      have T1 := Lib.hid (impl_TrimPoly_any w.heap.size 0 M M _ wr Hl.out (by rw [Hl.out]; omega) (Nat.le_refl _) ho.lt ho.cells)
      clear ho
      go_wp2_with fail
      refine T1.out.mono ?_
      rintro e w3 ⟨g3, c3, rfl, ho3, hb3⟩
      go_wp2_with fail
      go_ret
      exact ⟨g3, c3, rfl, ho3.mono hb.size, hb.trans (hb3.mono hb.size)⟩


set_option maxHeartbeats 2000000 in
theorem impl_shifted_any (g o n c k : Nat) (p : List Int) (w : World) (hn : p.length = n) (hx : p.length ≤ 100000) (hcap : n ≤ c) (hk : k ≤ 100000) (hg : g < w.heap.size) (hc : Cells w g o p) :
    Calls Tryz.prog 113 #[(Value.slice (some ⟨g, o, none⟩) n c), .int .i64 (k : Int)] w (GotInts w (shI p k)) := by
  have T1 := Lib.hid (impl_TrimPoly_any g o n c p w hn (by omega) hcap hg hc)
  have htl := trim_le p
  have hsh : shI p k = if trim p = [] then [] else List.replicate k 0 ++ trim p := rfl
  rw [hn] at hx htl
  rw [hsh]
  clear hn hc hsh
  generalize trim p = t at *
  obtain ⟨l, hl⟩ : ∃ l, t.length = l := ⟨_, rfl⟩
  rw [hl] at htl
  have Hl := Lib.hid hl
  by_cases h0 : l = 0
  · have ht : t = [] := List.length_eq_zero_iff.1 (by rw [hl]; exact h0)
    subst h0
    rw [if_pos ht]
    subst ht
    clear hl Hl
    go_enter Tryz.func113, Tryz.ntmps113
    go_wp2_with fail
    refine T1.out.mono ?_
    rintro e w1 ⟨g1, c1, rfl, ho1, hb1⟩
    go_wp2_with fail
    go_ret
    exact ⟨g1, c1, rfl, ho1, hb1⟩
  · have ht : ¬ t = [] := fun e => h0 (by rw [← hl, e]; rfl)
    rw [if_neg ht]
    have hlI : ((l : Int) == 0) = false := by simpa using h0
    have hl2 : (List.replicate k (0 : Int) ++ t).length = k + l := by rw [List.length_append, List.length_replicate, hl]
    have Hl2 := Lib.hid hl2
    clear hl hl2 ht
    go_enter Tryz.func113, Tryz.ntmps113
    go_wp2_with fail
    refine T1.out.mono ?_
    rintro e w1 ⟨g1, c1, rfl, ho1, hb1⟩
    rw [Hl.out]
    clear T1
    go_wp2_with (at_make; refine wpList_make_ints rfl _ _ rfl w.heap.size k _ rfl rfl rfl (by omega) hb1.size ?_)
    intro w2 ho2 hg2
    have hb2 := hb1.grown hg2 hb1.size (by intro t ht; cases ht)
    have ho12 := ho1.grown hg2 (by intro e; cases e)
    have hlk : (List.replicate k (0 : Int)).length = k := by simp
    go_wp2_with (at_builtin; refine wpList_append_ints_n rfl _ _ rfl w.heap.size w1.heap.size k k (List.replicate k 0) hlk ho2 g1 0 l c1 t Hl.out ho12.cells rfl rfl (by omega) ?_)
    intro g3 c3 w3 ho3 hg3 _
    have hb3 := hb2.grown hg3 hb2.size (by intro t ht; cases ht; exact hb1.size)
    clear ho2 hg2 ho12 ho1 hg3
    go_wp2_with fail
    go_ret
    exact GotInts.mk' g3 c3 Hl2.out ho3 hb3
end Go.Proofs.YtobeigdjhepedaaGreatDoor
