/- What the polynomials of pairs hold, in words. Plain law. The program's table of Kazhdan and Lusztig as it is read: shorter, mu. Contracts. copy(dst, src) of ints to a list of the call's own. Sums, differences and shifts of polynomials by the program: contracts. One polynomial by the program: contract. -/
import Derived.Test.YtdedkfbiookofaaGreatDoorK33
import Derived.Test.YtdedkfbiookofaaGreatDoorK41
import Derived.Test.YtdedkfbiookofaaGreatDoorK21
import Derived.Test.YtdedkfbiookofaaGreatDoorK02
import Derived.Test.YtdedkfbiookofaaGreatDoorK42
import Derived.Test.YtdedkfbiookofaaGreatDoorK34
import Derived.Test.YtdedkfbiookofaaGreatDoorK00
import Derived.Laws.CopyOwn
import Derived.Test.YtdedkfbiookofaaGreatDoorK20
import Derived.Test.YtdedkfbiookofaaGreatDoorK04
import Derived.Deep.RegionHeld3
import Derived.Deep.CutRange
import Derived.Deep.CutBlock
namespace Go.Proofs.YtdedkfbiookofaaGreatDoor
set_option maxRecDepth 100000
open Go.RowKit Game
theorem klB_khC {c : List (List Int)} (h : klB c = true) : khC c = true := by
  have hf := klB_fin h
  have hs : szO c = prodT (nameL c) := if_pos hf
  have h1 := kh_fin (fin_isC hf) hf
  unfold kh24 at h1
  rw [Bool.or_eq_true] at h1
  rcases h1 with h1 | h1
  · have := of_decide_eq_true h1
    have := klB_24 h
    omega
  · exact h1
theorem khFound {c : List (List Int)} (h : klB c = true) : khAll c (elemL c) (rowsS (elemL c) (leftT c)) (rTab c (elemL c)) (invT c (elemL c)) = true := by
  have h1 := klB_khC h
  unfold khC at h1
  rw [← klB_leftT h] at h1
  exact h1
structure KhAt (c : List (List Int)) (a b : List Int) : Prop where
  below : decide (klP c a b = []) = !bruB c a b
  inv : pol (rowsS (elemL c) (leftT c)) ((invT c (elemL c)).getD (ixK c b) 0) ((invT c (elemL c)).getD (ixK c a) 0) = klP c a b
  one : klP c a b ≠ [] → (klP c a b).getD 0 0 = 1
  deg : klP c a b ≠ [] → (nfI c b).length ≤ (nfI c a).length ∨ 2 * ((klP c a b).length - 1) + 1 ≤ (nfI c b).length - (nfI c a).length
  pos : ∀ x ∈ klP c a b, 0 ≤ x
  few : klP c a b ≠ [] → (klP c a b).length ≤ (nfI c b).length - (nfI c a).length + 1
  bar : klP c a b ≠ [] → barS (rTab c (elemL c)) (rowsS (elemL c) (leftT c)) (ixK c a) (ixK c b) (elemL c).length = revL (klP c a b) ((nfI c b).length - (nfI c a).length)
theorem kh_at {c : List (List Int)} {a b : List Int} (hk : klB c = true) (hA : WordOk c a) (hB : WordOk c b) : KhAt c a b := by
  have hG := klB_grp hk
  have h0 := khFound hk
  have h1 := List.all_eq_true.1 h0 (ixK c b) (List.mem_range.2 (ixK_at hG hB).2)
  unfold khV at h1
  rw [Bool.and_eq_true] at h1
  have h2 := List.all_eq_true.1 h1.2 (ixK c a) (List.mem_range.2 (ixK_at hG hA).2)
  unfold khUV lenA at h2
  rw [ixK_elem hG hA, ixK_elem hG hB, ← klP_rows hk hB] at h2
  rw [Bool.and_eq_true, Bool.and_eq_true, Bool.or_eq_true] at h2
  obtain ⟨q1, q2, q3⟩ := h2
  have q1' : decide (klP c a b = []) = !bruB c a b := by
    have := beq_iff_eq.1 q1
    rw [this]; rfl
  have q4 : klP c a b ≠ [] → (klP c a b).getD 0 0 = 1 ∧ ((nfI c b).length ≤ (nfI c a).length ∨ 2 * ((klP c a b).length - 1) + 1 ≤ (nfI c b).length - (nfI c a).length) ∧ (∀ x ∈ klP c a b, 0 ≤ x) ∧ (klP c a b).length ≤ (nfI c b).length - (nfI c a).length + 1 ∧ barS (rTab c (elemL c)) (rowsS (elemL c) (leftT c)) (ixK c a) (ixK c b) (elemL c).length = revL (klP c a b) ((nfI c b).length - (nfI c a).length) := fun hne => by
    rcases q3 with q3 | q3
    · exact absurd (of_decide_eq_true q3) hne
    · rw [Bool.and_eq_true, Bool.and_eq_true, Bool.and_eq_true, Bool.and_eq_true, Bool.or_eq_true] at q3
      obtain ⟨a1, a2, a3, a4, a5⟩ := q3
      exact ⟨of_decide_eq_true a1, a2.imp of_decide_eq_true of_decide_eq_true, fun x hx => of_decide_eq_true (List.all_eq_true.1 a3 x hx), of_decide_eq_true a4, of_decide_eq_true a5⟩
  refine ⟨q1', of_decide_eq_true q2, fun h => (q4 h).1, fun h => (q4 h).2.1, fun x hx => ?_, fun h => (q4 h).2.2.2.1, fun h => (q4 h).2.2.2.2⟩
  have hne : klP c a b ≠ [] := fun e => by rw [e] at hx; simp at hx
  exact (q4 hne).2.2.1 x hx
theorem betti_pal {c : List (List Int)} {b : List Int} (hk : klB c = true) (hB : WordOk c b) : bettiTo (elemL c) (rowsS (elemL c) (leftT c)) (ixK c b) (elemL c).length = (bettiTo (elemL c) (rowsS (elemL c) (leftT c)) (ixK c b) (elemL c).length).reverse := by
  have hG := klB_grp hk
  have h1 := List.all_eq_true.1 (khFound hk) (ixK c b) (List.mem_range.2 (ixK_at hG hB).2)
  unfold khV at h1
  rw [Bool.and_eq_true] at h1
  exact of_decide_eq_true h1.1
theorem wordOk_rev {c : List (List Int)} {a : List Int} (hA : WordOk c a) : WordOk c a.reverse :=
  ⟨hA.isC, by rw [List.length_reverse]; exact hA.few, fun k hk => by
    have hm : a.reverse.getD k 0 ∈ a := List.mem_reverse.1 (by
      unfold List.getD
      rw [List.getElem?_eq_getElem hk]
      exact List.getElem_mem hk)
    obtain ⟨j, hj, e⟩ := List.mem_iff_getElem.1 hm
    have := hA.inr j hj
    rw [show a.getD j 0 = a.reverse.getD k 0 by rw [← e]; simp [List.getD, hj]] at this
    exact this⟩
theorem nf_rev {c : List (List Int)} {a : List Int} (hA : WordOk c a) : nfI c a.reverse = nfI c (nfI c a).reverse := by
  have hE : WordOk c [] := ⟨hA.isC, by simp, by simp⟩
  have h := weak_nf hA hE
  have hz : nfI c [] = [] := List.length_eq_zero_iff.1 (by have := (nfI_ok (hE.lets.mono (show 15 ≤ 30 by omega))).len; simpa using this)
  rw [hz, List.append_nil, List.append_nil] at h
  exact h
theorem ixK_rev {c : List (List Int)} (hG : Grp c) {a : List Int} (hA : WordOk c a) : ixK c a.reverse = (invT c (elemL c)).getD (ixK c a) 0 := by
  have hlt := (ixK_at hG hA).2
  have e : (invT c (elemL c)).getD (ixK c a) 0 = (idxL (elemL c) (nfI c ((elemL c).getD (ixK c a) []).reverse)).toNat := by
    unfold invT; simp [List.getD, hlt]
  rw [e, ixK_elem hG hA, ← nf_rev hA]
  rfl
/-- the polynomial of the inverses -/
theorem klP_rev {c : List (List Int)} {a b : List Int} (hk : klB c = true) (hA : WordOk c a) (hB : WordOk c b) : klP c a.reverse b.reverse = klP c a b := by
  have hG := klB_grp hk
  rw [klP_rows hk (wordOk_rev hB), ixK_rev hG hA, ixK_rev hG hB]
  exact (kh_at hk hA hB).inv
theorem rTab_at {c : List (List Int)} (hk : klB c = true) {a : List Int} (hA : WordOk c a) {x : Nat} (hx : x < (elemL c).length) (hX : WordOk c ((elemL c).getD x [])) (hs : nfI c ((elemL c).getD x []) = (elemL c).getD x []) (h10 : ((elemL c).getD x []).length ≤ 10) :
    rP c a ((elemL c).getD x []) = pol (rTab c (elemL c)) (ixK c a) x := by
  have hG := klB_grp hk
  have hlt := (ixK_at hG hA).2
  have e : pol (rTab c (elemL c)) (ixK c a) x = rI c ((elemL c).getD x []) (imI c ((elemL c).getD (ixK c a) [])) := by
    unfold pol rTab; simp [List.getD, hlt, hx]
  rw [e, ixK_elem hG hA]
  have hok : rOk c a ((elemL c).getD x []) = true := by
    unfold rOk; rw [hA.isWord, hX.isWord, hs, decide_eq_true h10]; rfl
  unfold rP
  rw [if_pos hok, hs, ← r_eq _ (by have := (nw_nf hX).lets; rw [hs] at this; exact this) (nw_nf hA)]
end Go.Proofs.YtdedkfbiookofaaGreatDoor
namespace Go.Proofs.YtdedkfbiookofaaGreatDoor
set_option maxRecDepth 100000
open Go.RowKit Game
/-- the struct that holds the elements, the products and the polynomials -/
structure KzF (w : World) (k gl cl gt ct gp cp N : Nat) : Prop where
  f0 : w.cell? ⟨k, 0, none⟩ = some (Value.slice (some ⟨gl, 0, none⟩) N cl)
  f1 : w.cell? ⟨k, 1, none⟩ = some (Value.slice (some ⟨gt, 0, none⟩) N ct)
  f3 : w.cell? ⟨k, 3, none⟩ = some (Value.slice (some ⟨gp, 0, none⟩) N cp)
  lt : k < w.heap.size
/-- one polynomial of the table is read -/
def PolAt (w : World) (gp N i j : Nat) (p : List Int) : Prop :=
  ∃ gi ci b cb, w.cell? ⟨gp, i, none⟩ = some (Value.slice (some ⟨gi, 0, none⟩) N ci) ∧ w.cell? ⟨gi, j, none⟩ = some (Value.slice (some ⟨b, 0, none⟩) p.length cb) ∧ p.length ≤ cb ∧ gi < w.heap.size ∧ b < w.heap.size ∧ Cells w b 0 p
theorem KzF.below {w w' : World} {k gl cl gt ct gp cp N : Nat} (h : KzF w k gl cl gt ct gp cp N) (hb : Below w.heap.size w w') : KzF w' k gl cl gt ct gp cp N :=
  ⟨(hb.cell (p := ⟨k, 0, none⟩) h.lt).trans h.f0, (hb.cell (p := ⟨k, 1, none⟩) h.lt).trans h.f1, (hb.cell (p := ⟨k, 3, none⟩) h.lt).trans h.f3, Nat.lt_of_lt_of_le h.lt hb.size⟩
theorem PolAt.below {w w' : World} {gp N i j : Nat} {p : List Int} (h : PolAt w gp N i j p) (hg : gp < w.heap.size) (hb : Below w.heap.size w w') : PolAt w' gp N i j p := by
  obtain ⟨gi, ci, b, cb, h1, h2, h3, h4, h5, h6⟩ := h
  exact ⟨gi, ci, b, cb, (hb.cell (p := ⟨gp, i, none⟩) hg).trans h1, (hb.cell (p := ⟨gi, j, none⟩) h4).trans h2, h3, Nat.lt_of_lt_of_le h4 hb.size, Nat.lt_of_lt_of_le h5 hb.size, h6.below hb h5⟩
set_option maxHeartbeats 1000000 in
theorem impl_shorter_ok (k gl cl gt ct gp cp N n s x : Nat) (L T : List (List Int)) (w : World) (H : KlOk n N L T) (hF : KzF w k gl cl gt ct gp cp N) (hL : Rows2 w gl 0 L) (hT : Rows2 w gt 0 T) (hs : s < n) (hx : x < N) :
    Calls Tryz.prog 127 #[.pointer (some ⟨k, 0, none⟩), .int .i64 (s : Int), .int .i64 (x : Int)] w (Reads w (.bool (shorter L T s x))) := by
  obtain ⟨ht, hy⟩ := H.tab x s hx hs
  obtain ⟨g1, o1, c1, a1, -, -, -⟩ := hL x (by rw [H.len]; exact hx)
  obtain ⟨g2, o2, c2, b1, -, -, b4⟩ := hT x (by rw [H.tlen]; exact hx)
  obtain ⟨g3, o3, c3, d1, -, -, -⟩ := hL (tabA T x s) (by rw [H.len]; exact hy)
  have b5 := b4 s (by rw [H.row x hx]; exact hs)
  rw [ht] at b5
  rw [H.row x hx] at b1
  have f0 := hF.f0
  have f1 := hF.f1
  have hsh : shorter L T s x = decide (lenA L (tabA T x s) < lenA L x) := rfl
  rw [hsh]
  change w.cell? _ = some (Value.slice (some ⟨_, _, none⟩) (lenA L x) _) at a1
  change w.cell? _ = some (Value.slice (some ⟨_, _, none⟩) (lenA L (tabA T x s)) _) at d1
  generalize lenA L (tabA T x s) = p at *
  generalize lenA L x = q at *
  generalize tabA T x s = y at *
  rw [Nat.zero_add] at a1 b1 d1
  clear hL hT H hF b4 ht hsh
  go_enter Tryz.func127, Tryz.ntmps127
  go_wp2_with fail
  go_quiet (fail)
  go_wp2_with fail
  go_ret
  exact ⟨rfl, (by first | exact ⟨_, rfl⟩ | exact ⟨0, rfl⟩ | exact still2 _ _ _ | exact still3 _ _ _ _)⟩
set_option maxHeartbeats 1000000 in
theorem impl_mu_ok (k gl cl gt ct gp cp N n z v : Nat) (L T : List (List Int)) (p : List Int) (w : World) (H : KlOk n N L T) (hF : KzF w k gl cl gt ct gp cp N) (hL : Rows2 w gl 0 L) (hz : z < N) (hv : v < N) (hp : lenA L z < lenA L v → PolAt w gp N z v p) :
    Calls Tryz.prog 58 #[.pointer (some ⟨k, 0, none⟩), .int .i64 (z : Int), .int .i64 (v : Int)] w (Reads w (.int .i64 (muI L p z v))) := by
  obtain ⟨g1, o1, c1, a1, -, -, -⟩ := hL v (by rw [H.len]; exact hv)
  obtain ⟨g3, o3, c3, d1, -, -, -⟩ := hL z (by rw [H.len]; exact hz)
  have f0 := hF.f0
  have f3 := hF.f3
  have hdef : muI L p z v = if lenA L v ≤ lenA L z ∨ (lenA L v - lenA L z) % 2 = 0 ∨ p.length ≤ (lenA L v - lenA L z - 1) / 2 then 0 else p.getD ((lenA L v - lenA L z - 1) / 2) 0 := rfl
  rw [hdef]
  have hs1 := H.short v
  have hs2 := H.short z
  change w.cell? _ = some (Value.slice (some ⟨_, _, none⟩) (lenA L v) _) at a1
  change w.cell? _ = some (Value.slice (some ⟨_, _, none⟩) (lenA L z) _) at d1
  generalize lenA L v = a at *
  generalize lenA L z = b at *
  rw [Nat.zero_add] at a1 d1
  clear hL H hF hdef
  have ew : IntKind.i64.wrap ((a : Int) - (b : Int)) = (a : Int) - (b : Int) := IntWalk.i64_in _ (by omega)
  by_cases h0 : a ≤ b
  · rw [if_pos (.inl h0)]
    have d0 : decide ((a : Int) - (b : Int) ≤ 0) = true := decide_eq_true (by omega)
    go_enter Tryz.func58, Tryz.ntmps58
    go_wp2_with fail
    go_quiet (fail)
    go_wp2_with fail
    go_ret
    exact ⟨rfl, (by first | exact ⟨_, rfl⟩ | exact ⟨0, rfl⟩ | exact still2 _ _ _ | exact still3 _ _ _ _)⟩
  · obtain ⟨D, rfl⟩ : ∃ D, a = b + D := ⟨a - b, by omega⟩
    obtain ⟨gi, ci, bb, cb, p1, p2, -, -, -, p4⟩ := hp (by omega)
    have ed : b + D - b = D := by omega
    rw [ed]
    have eD : ((b + D : Nat) : Int) - (b : Int) = (D : Int) := by omega
    rw [eD] at ew
    have eD2 : (b : Int) + (D : Int) - (b : Int) = (D : Int) := by omega
    have d0 : decide ((D : Int) ≤ 0) = false := decide_eq_false (by omega)
    by_cases h1 : D % 2 = 0
    · rw [if_pos (.inr (.inl h1))]
      have d1 : (((D : Int) % 2) == 0) = true := by rw [beq_iff_eq]; omega
      go_enter Tryz.func58, Tryz.ntmps58
      go_wp2_with fail
      go_quiet (fail)
      go_wp2_with fail
      go_ret
      exact ⟨rfl, (by first | exact ⟨_, rfl⟩ | exact ⟨0, rfl⟩ | exact still2 _ _ _ | exact still3 _ _ _ _)⟩
    have d1 : (((D : Int) % 2) == 0) = false := by rw [beq_eq_false_iff_ne]; omega
    obtain ⟨q, hq⟩ : ∃ q : Nat, D = 2 * q + 1 := ⟨D / 2, by omega⟩
    have eq2 : (D - 1) / 2 = q := by omega
    rw [eq2]
    have ew2 : IntKind.i64.wrap ((D : Int) - 1) = (D : Int) - 1 := IntWalk.i64_in _ (by omega)
    have e5 : ((D : Int) - 1).tdiv 2 = (q : Int) := by rw [show (D : Int) - 1 = 2 * (q : Int) by omega, Int.mul_tdiv_cancel_left _ (by decide)]
    have e6 : ((D : Int) - 1) / 2 = (q : Int) := by omega
    by_cases h2 : p.length ≤ q
    · rw [if_pos (.inr (.inr h2))]
      have d2 : decide ((p.length : Int) ≤ (q : Int)) = true := decide_eq_true (by omega)
      have hD0 : ¬ D = 0 := by omega
      clear p4 hq eq2
      generalize p.length = l at *
      go_enter Tryz.func58, Tryz.ntmps58
      go_wp2_with fail
      go_quiet (fail)
      go_wp2_with fail
      go_ret
      exact ⟨rfl, (by first | exact ⟨_, rfl⟩ | exact ⟨0, rfl⟩ | exact still2 _ _ _ | exact still3 _ _ _ _)⟩
    · rw [if_neg (by omega)]
      have d2 : decide ((p.length : Int) ≤ (q : Int)) = false := decide_eq_false (by omega)
      have p5 := p4 q (by omega)
      have b1 : (q : Int) < (p.length : Int) := by omega
      generalize p.getD q 0 = y at *
      have hD0 : ¬ D = 0 := by omega
      clear p4 hq eq2
      generalize p.length = l at *
      rw [Nat.zero_add] at p5
      go_enter Tryz.func58, Tryz.ntmps58
      go_wp2_with fail
      go_quiet (fail)
      go_wp2_with fail
      go_ret
      exact ⟨rfl, (by first | exact ⟨_, rfl⟩ | exact ⟨0, rfl⟩ | exact still2 _ _ _ | exact still3 _ _ _ _)⟩
end Go.Proofs.YtdedkfbiookofaaGreatDoor
namespace Go.Proofs.YtdedkfbiookofaaGreatDoor
set_option maxRecDepth 100000
open Go.RowKit
theorem wpList_copy_ints {w : World} {ops : Array Oper} {rest : List Oper} {o : Oper} {a : Act} {Q : Exit → Act → World → Prop} (hgd : o.guard = none) (d s : Operand)
    (ho : o.op = .call { callee := .builtin .copy, args := #[d, s], argTypes := #[25, 25] })
    (B g n : Nat) (xs : List Int) (hxn : xs.length = n) (hown : Own w B g n xs) (g2 o2 n2 c2 : Nat) (ys : List Int) (hn2 : ys.length = n2) (hle : n2 ≤ n) (hc : Cells w g2 o2 ys)
    (hd : a.eval d = (Value.slice (some ⟨g, 0, none⟩) n n)) (hs : a.eval s = (Value.slice (some ⟨g2, o2, none⟩) n2 c2))
    (h : ∀ w', Own w' B g n (ys ++ xs.drop n2) → w.grownBy w' (some g) → wpList Tryz.prog ops Q rest (a.put o.dst (.int .i64 (n2 : Int))) w') :
    wpList Tryz.prog ops Q (o :: rest) a w := by
  subst hxn; subst hn2
  rcases hown.2 with ⟨h', _⟩ | ⟨g1, cap1, cur, hv, hb, hh, hn, hm, hs1, htk⟩
  · simp at h'
  simp only [Value.slice.injEq, Option.some.injEq, Addr.mk.injEq, and_true, true_and] at hv
  obtain ⟨rfl, rfl⟩ := hv
  rw [Nat.mul_one] at hs1 htk
  have hcl : cur.toList = xs.map (Value.int .i64) := by rw [← htk, ← hs1, ← Array.length_toList, List.take_length]
  refine wpList_copy_own hgd d s 25 25 ho 3 Tryz.underlying25 (by kernel_rfl) g 0 xs.length xs.length ⟨g2, o2, none⟩ ys.length c2 hd hs cur 3 hh (ys.map (Value.int .i64)) (by rw [List.length_map]; exact (Nat.min_eq_left hle).symm) ?_ (by rw [List.length_map, hs1]; omega) (ints_oneCell _ _) ?_
  · intro j v hj
    have hj' : j < ys.length := by have := (List.getElem?_eq_some_iff.1 hj).1; simpa using this
    have := hc j hj'
    rw [Addr.add_lit, this]
    simp [hj'] at hj
    rw [← hj]
    simp [List.getD, hj']
  · have e : goInt (ys.map (Value.int .i64)).length = .int .i64 (ys.length : Int) := by rw [List.length_map]; rfl
    rw [e, hcl]
    refine h _ ?_ ⟨rfl, rfl, rfl, by simp, fun k _ hk => setRow_other w g k _ (fun e => hk (by rw [e]))⟩
    have hlen : (ys ++ xs.drop ys.length).length = xs.length := by rw [List.length_append, List.length_drop]; omega
    have hcs : (List.take 0 (xs.map (Value.int .i64)) ++ (ys.map (Value.int .i64) ++ List.drop (0 + (ys.map (Value.int .i64)).length) (xs.map (Value.int .i64)))) = (ys ++ xs.drop ys.length).map (Value.int .i64) := by
      rw [List.take_zero, List.nil_append, Nat.zero_add, List.length_map, List.map_append, List.map_drop]
    rw [hcs]
    unfold Own
    rw [hlen]
    refine ⟨by rw [List.length_map, hlen, Nat.mul_one], .inr ⟨g, _, _, rfl, hb, setRow_heap w g cur _ _ _ hh, Nat.le_refl _, hm, by simp; omega, ?_⟩⟩
    show List.take (xs.length * 1) ((ys ++ xs.drop ys.length).map (Value.int .i64)) = _
    rw [Nat.mul_one]
    exact List.take_of_length_le (by rw [List.length_map, hlen]; exact Nat.le_refl _)
end Go.Proofs.YtdedkfbiookofaaGreatDoor
namespace Go.Proofs.YtdedkfbiookofaaGreatDoor
set_option maxRecDepth 100000
open Go.RowKit
/-- a polynomial with t places of another one added, in n places -/
def addN (f : Int → Int → Int) (a b : List Int) (n t : Nat) : List Int := (List.range n).map fun i => if i < t ∧ i < b.length then f (a.getD i 0) (b.getD i 0) else a.getD i 0
theorem addN_length (f : Int → Int → Int) (a b : List Int) (n t : Nat) : (addN f a b n t).length = n := by simp [addN]
theorem addN_zero {f : Int → Int → Int} {a b : List Int} {n : Nat} (h : a.length ≤ n) : addN f a b n 0 = a ++ (List.replicate n (0 : Int)).drop a.length := by
  refine List.ext_getElem (by simp [addN]; omega) fun i h1 h2 => ?_
  simp only [addN, Nat.not_lt_zero, false_and, ↓reduceIte, List.getElem_map, List.getElem_range]
  by_cases hi : i < a.length
  · rw [List.getElem_append_left hi]; simp [List.getD, hi]
  · rw [List.getElem_append_right (by omega)]; simp [List.getD, Nat.not_lt.1 hi]
theorem addN_get {f : Int → Int → Int} {a b : List Int} {n t : Nat} (h : t < n) : (addN f a b n t).getD t 0 = a.getD t 0 := by
  simp [addN, List.getD, h]
theorem addN_succ {f : Int → Int → Int} {a b : List Int} {n t : Nat} (hb : t < b.length) : addN f a b n (t + 1) = (addN f a b n t).set t (f (a.getD t 0) (b.getD t 0)) := by
  refine List.ext_getElem (by simp [addN]) fun i h1 h2 => ?_
  rw [List.getElem_set]
  simp only [addN, List.getElem_map, List.getElem_range]
  by_cases e : t = i
  · subst e
    rw [if_pos rfl, if_pos ⟨by omega, hb⟩]
  · rw [if_neg e]
    by_cases h : i < t ∧ i < b.length
    · rw [if_pos ⟨by omega, h.2⟩, if_pos h]
    · rw [if_neg (by omega), if_neg h]
theorem addN_full (f : Int → Int → Int) (a b : List Int) (n : Nat) : addN f a b n b.length = (List.range n).map fun i => if i < b.length then f (a.getD i 0) (b.getD i 0) else a.getD i 0 := by
  unfold addN
  congr 1
  funext i
  by_cases h : i < b.length
  · rw [if_pos ⟨h, h⟩, if_pos h]
  · rw [if_neg (fun e => h e.2), if_neg h]
set_option maxHeartbeats 2000000 in
theorem impl_AddPoly_any (g1 o1 n1 c1 g2 o2 n2 c2 : Nat) (a b : List Int) (w : World) (hn1 : a.length = n1) (hn2 : b.length = n2) (hx : a.length ≤ 100000) (hy : b.length ≤ 100000)
    (hg1 : g1 < w.heap.size) (hg2 : g2 < w.heap.size) (hc1 : Cells w g1 o1 a) (hc2 : Cells w g2 o2 b) :
    Calls Tryz.prog 63 #[(Value.slice (some ⟨g1, o1, none⟩) n1 c1), (Value.slice (some ⟨g2, o2, none⟩) n2 c2)] w (GotInts w (addP a b)) := by
  have Hn1 := Lib.hid hn1; have Hn2 := Lib.hid hn2
  rw [hn1] at hx
  rw [hn2] at hy
  obtain ⟨M, hM⟩ : ∃ M, max n1 n2 = M := ⟨_, rfl⟩
  have hMI : max (n1 : Int) (n2 : Int) = (M : Int) := by omega
  have hM1 : M ≤ 100000 := by omega
  have hM2 : n1 ≤ M := by omega
  have hM3 : n2 ≤ M := by omega
  have hP : addP a b = trim (addN (fun x y => wrap64 (x + y)) a b M n2) := by
    rw [← Hn2.out, addN_full, ← hM, ← Hn1.out, ← Hn2.out]; rfl
  rw [hP]
  have hz0 := addN_zero (f := fun x y => wrap64 (x + y)) (a := a) (b := b) (n := M) (by rw [Hn1.out]; exact hM2)
  rw [hn1, List.drop_replicate] at hz0
  have Hz0 := Lib.hid hz0
  clear hn1 hn2 hM hP hz0
  go_enter Tryz.func63, Tryz.ntmps63
  go_wp2_with (at_make; refine wpList_make_ints rfl _ _ rfl w.heap.size M _ rfl rfl rfl (by omega) (Nat.le_refl _) ?_)
  intro w1 ho1 hg1'
  have hb1 := (Below.refl w.heap.size w).grown hg1' (Nat.le_refl _) (by intro t ht; cases ht)
  have hc1' := hc1.below hb1 hg1
  go_wp2_with (refine wpList_copy_ints (o := ⟨some 16, _, _, _, _, _⟩) rfl (.tmp 14) (.tmp 15) rfl w.heap.size w.heap.size M (List.replicate M 0) (by simp) ho1 g1 o1 n1 c1 a Hn1.out hM2 hc1' rfl rfl ?_)
  intro w2 ho2 hg2'
  rw [← Hz0.out] at ho2
  have hb2 := hb1.grown hg2' hb1.size (by intro t ht; cases ht; exact Nat.le_refl _)
  clear ho1 hg1' hc1' hb1 hg2'
  go_wp2_with fail
  go_loopw [19] (fun iv wr => ∃ i : Nat, i ≤ n2 ∧ iv = .int .i64 (i : Nat) ∧ Own wr w.heap.size w.heap.size M (addN (fun x y => wrap64 (x + y)) a b M i) ∧ Below w.heap.size w wr) (fun iv _ => n2 - (intOf iv).toNat)
  case atStart => exact ⟨0, Nat.zero_le _, rfl, ho2, hb2⟩
  case round =>
    clear ho2 hb2
    obtain ⟨i, hi, rfl, ho, hb⟩ := hrel
    have Hl := Lib.hid (addN_length (fun x y => wrap64 (x + y)) a b M i)
    by_cases hlt : i < n2
    · have q2 := hc2.below hb hg2 i (by rw [Hn2.out]; exact hlt)
      have Hs := Lib.hid (addN_succ (f := fun x y => wrap64 (x + y)) (a := a) (b := b) (n := M) (t := i) (by rw [Hn2.out]; exact hlt))
      have q1 := ho.cell i (by rw [Hl.out]; omega)
      rw [addN_get (by omega)] at q1
      have f1 := ho.frozen i
      have hlI : (i : Int) < (M : Int) := by omega
      generalize a.getD i 0 = x at *
      generalize b.getD i 0 = y at *
      have hset := ho.set i (wrap64 (x + y))
      rw [← Hs.out] at hset
      have Hset := Lib.hid hset.1
      have hb3 := hb.grown hset.2 hb.size (by intro t ht; cases ht; exact Nat.le_refl _)
      clear hset
      go_wp2_with fail
      go_roundw
      case rel => exact ⟨i + 1, by omega, by go_num, Hset.out, hb3⟩
      case measure => simp [intOf]; omega
    · obtain rfl : i = n2 := by omega
      have T1 := Lib.hid (impl_TrimPoly_any w.heap.size 0 M M _ wr Hl.out (by rw [Hl.out]; omega) (Nat.le_refl _) ho.lt ho.cells)
      clear ho
      go_wp2_with fail
      refine T1.out.mono ?_
      rintro e w3 ⟨g3, c3, rfl, ho3, hb3⟩
      go_wp2_with fail
      go_ret
      exact ⟨g3, c3, rfl, ho3.mono hb.size, hb.trans (hb3.mono hb.size)⟩
 
set_option maxHeartbeats 2000000 in
theorem impl_SubPoly_any (g1 o1 n1 c1 g2 o2 n2 c2 : Nat) (a b : List Int) (w : World) (hn1 : a.length = n1) (hn2 : b.length = n2) (hx : a.length ≤ 100000) (hy : b.length ≤ 100000)
    (hg1 : g1 < w.heap.size) (hg2 : g2 < w.heap.size) (hc1 : Cells w g1 o1 a) (hc2 : Cells w g2 o2 b) :
    Calls Tryz.prog 128 #[(Value.slice (some ⟨g1, o1, none⟩) n1 c1), (Value.slice (some ⟨g2, o2, none⟩) n2 c2)] w (GotInts w (subP' a b)) := by
  have Hn1 := Lib.hid hn1; have Hn2 := Lib.hid hn2
  rw [hn1] at hx
  rw [hn2] at hy
  obtain ⟨M, hM⟩ : ∃ M, max n1 n2 = M := ⟨_, rfl⟩
  have hMI : max (n1 : Int) (n2 : Int) = (M : Int) := by omega
  have hM1 : M ≤ 100000 := by omega
  have hM2 : n1 ≤ M := by omega
  have hM3 : n2 ≤ M := by omega
  have hP : subP' a b = trim (addN (fun x y => wrap64 (x - y)) a b M n2) := by
    rw [← Hn2.out, addN_full, ← hM, ← Hn1.out, ← Hn2.out]; rfl
  rw [hP]
  have hz0 := addN_zero (f := fun x y => wrap64 (x - y)) (a := a) (b := b) (n := M) (by rw [Hn1.out]; exact hM2)
  rw [hn1, List.drop_replicate] at hz0
  have Hz0 := Lib.hid hz0
  clear hn1 hn2 hM hP hz0
  go_enter Tryz.func128, Tryz.ntmps128
  go_wp2_with (at_make; refine wpList_make_ints rfl _ _ rfl w.heap.size M _ rfl rfl rfl (by omega) (Nat.le_refl _) ?_)
  intro w1 ho1 hg1'
  have hb1 := (Below.refl w.heap.size w).grown hg1' (Nat.le_refl _) (by intro t ht; cases ht)
  have hc1' := hc1.below hb1 hg1
  go_wp2_with (refine wpList_copy_ints (o := ⟨some 16, _, _, _, _, _⟩) rfl (.tmp 14) (.tmp 15) rfl w.heap.size w.heap.size M (List.replicate M 0) (by simp) ho1 g1 o1 n1 c1 a Hn1.out hM2 hc1' rfl rfl ?_)
  intro w2 ho2 hg2'
  rw [← Hz0.out] at ho2
  have hb2 := hb1.grown hg2' hb1.size (by intro t ht; cases ht; exact Nat.le_refl _)
  clear ho1 hg1' hc1' hb1 hg2'
  go_wp2_with fail
  go_loopw [19] (fun iv wr => ∃ i : Nat, i ≤ n2 ∧ iv = .int .i64 (i : Nat) ∧ Own wr w.heap.size w.heap.size M (addN (fun x y => wrap64 (x - y)) a b M i) ∧ Below w.heap.size w wr) (fun iv _ => n2 - (intOf iv).toNat)
  case atStart => exact ⟨0, Nat.zero_le _, rfl, ho2, hb2⟩
  case round =>
    clear ho2 hb2
    obtain ⟨i, hi, rfl, ho, hb⟩ := hrel
    have Hl := Lib.hid (addN_length (fun x y => wrap64 (x - y)) a b M i)
    by_cases hlt : i < n2
    · have q2 := hc2.below hb hg2 i (by rw [Hn2.out]; exact hlt)
      have Hs := Lib.hid (addN_succ (f := fun x y => wrap64 (x - y)) (a := a) (b := b) (n := M) (t := i) (by rw [Hn2.out]; exact hlt))
      have q1 := ho.cell i (by rw [Hl.out]; omega)
      rw [addN_get (by omega)] at q1
      have f1 := ho.frozen i
      have hlI : (i : Int) < (M : Int) := by omega
      generalize a.getD i 0 = x at *
      generalize b.getD i 0 = y at *
      have hset := ho.set i (wrap64 (x - y))
      rw [← Hs.out] at hset
      have Hset := Lib.hid hset.1
      have hb3 := hb.grown hset.2 hb.size (by intro t ht; cases ht; exact Nat.le_refl _)
      clear hset
      go_wp2_with fail
      go_roundw
      case rel => exact ⟨i + 1, by omega, by go_num, Hset.out, hb3⟩
      case measure => simp [intOf]; omega
    · obtain rfl : i = n2 := by omega
      have T1 := Lib.hid (impl_TrimPoly_any w.heap.size 0 M M _ wr Hl.out (by rw [Hl.out]; omega) (Nat.le_refl _) ho.lt ho.cells)
      clear ho
      go_wp2_with fail
      refine T1.out.mono ?_
      rintro e w3 ⟨g3, c3, rfl, ho3, hb3⟩
      go_wp2_with fail
      go_ret
      exact ⟨g3, c3, rfl, ho3.mono hb.size, hb.trans (hb3.mono hb.size)⟩
set_option maxHeartbeats 2000000 in
theorem impl_shifted_any (g o n c k : Nat) (p : List Int) (w : World) (hn : p.length = n) (hx : p.length ≤ 100000) (hcap : n ≤ c) (hk : k ≤ 100000) (hg : g < w.heap.size) (hc : Cells w g o p) :
    Calls Tryz.prog 64 #[(Value.slice (some ⟨g, o, none⟩) n c), .int .i64 (k : Int)] w (GotInts w (shI p k)) := by
  have T1 := Lib.hid (impl_TrimPoly_any g o n c p w hn (by omega) hcap hg hc)
  have htl := trim_le p
  have hsh : shI p k = if trim p = [] then [] else List.replicate k 0 ++ trim p := rfl
  rw [hn] at hx htl
  rw [hsh]
  clear hn hc hsh
  generalize trim p = t at *
  obtain ⟨l, hl⟩ : ∃ l, t.length = l := ⟨_, rfl⟩
  rw [hl] at htl
  have Hl := Lib.hid hl
  by_cases h0 : l = 0
  · have ht : t = [] := List.length_eq_zero_iff.1 (by rw [hl]; exact h0)
    subst h0
    rw [if_pos ht]
    subst ht
    clear hl Hl
    go_enter Tryz.func64, Tryz.ntmps64
    go_wp2_with fail
    refine T1.out.mono ?_
    rintro e w1 ⟨g1, c1, rfl, ho1, hb1⟩
    go_wp2_with fail
    go_ret
    exact ⟨g1, c1, rfl, ho1, hb1⟩
  · have ht : ¬ t = [] := fun e => h0 (by rw [← hl, e]; rfl)
    rw [if_neg ht]
    have hlI : ((l : Int) == 0) = false := by simpa using h0
    have hl2 : (List.replicate k (0 : Int) ++ t).length = k + l := by rw [List.length_append, List.length_replicate, hl]
    have Hl2 := Lib.hid hl2
    clear hl hl2 ht
    go_enter Tryz.func64, Tryz.ntmps64
    go_wp2_with fail
    refine T1.out.mono ?_
    rintro e w1 ⟨g1, c1, rfl, ho1, hb1⟩
    rw [Hl.out]
    clear T1
    go_wp2_with (at_make; refine wpList_make_ints rfl _ _ rfl w.heap.size k _ rfl rfl rfl (by omega) hb1.size ?_)
    intro w2 ho2 hg2
    have hb2 := hb1.grown hg2 hb1.size (by intro t ht; cases ht)
    have ho12 := ho1.grown hg2 (by intro e; cases e)
    have hlk : (List.replicate k (0 : Int)).length = k := by simp
    go_wp2_with (at_builtin; refine wpList_append_ints_n rfl _ _ rfl w.heap.size w1.heap.size k k (List.replicate k 0) hlk ho2 g1 0 l c1 t Hl.out ho12.cells rfl rfl (by omega) ?_)
    intro g3 c3 w3 ho3 hg3 _
    have hb3 := hb2.grown hg3 hb2.size (by intro t ht; cases ht; exact hb1.size)
    clear ho2 hg2 ho12 ho1 hg3
    go_wp2_with fail
    go_ret
    exact GotInts.mk' g3 c3 Hl2.out ho3 hb3
end Go.Proofs.YtdedkfbiookofaaGreatDoor
namespace Go.Proofs.YtdedkfbiookofaaGreatDoor
set_option maxRecDepth 100000
open Go.RowKit Game
structure MadOk (N u v s W : Nat) (L T : List (List Int)) (P : List (List (List Int))) (Z : Nat → List Int) : Prop where
  start1 : shorter L T s u = true → Z 0 = addP (pol P (tabA T u s) W) (shI (pol P u W) 1)
  start2 : shorter L T s u = false → Z 0 = addP (shI (pol P (tabA T u s) W) 1) (pol P u W)
  yes : ∀ z, muI L (pol P z W) z W ≠ 0 → shorter L T s z = true → Z (z + 1) = subP' (Z z) (mul [muI L (pol P z W) z W] (shI (pol P u z) ((lenA L v - lenA L z) / 2)))
  no1 : ∀ z, muI L (pol P z W) z W = 0 → Z (z + 1) = Z z
  no2 : ∀ z, shorter L T s z = false → Z (z + 1) = Z z
  few : ∀ z, (Z z).length ≤ 200
theorem madOk {n N u v : Nat} {L T : List (List Int)} {P : List (List (List Int))} (H : KlOk n N L T) (hP : Known P N v 0) (hu : u < N) (hv : v < N) (h0 : v ≠ 0) :
    MadOk N u v (headA L v) (tabA T v (headA L v)) L T P (madeTo L T P u v) where
  start1 := fun h => by show madeS0 L T P u v = _; unfold madeS0; rw [if_pos h]
  start2 := fun h => by show madeS0 L T P u v = _; unfold madeS0; rw [if_neg (by rw [h]; decide)]
  yes := fun z h1 h2 => by rw [madeTo_succ]; unfold zStep; rw [if_neg (fun h => by rcases h with h | h; exact h1 h; rw [h2] at h; exact absurd h (by decide))]
  no1 := fun z h1 => by rw [madeTo_succ]; unfold zStep; rw [if_pos (.inl h1)]
  no2 := fun z h1 => by rw [madeTo_succ]; unfold zStep; rw [if_pos (.inr h1)]
  few := fun z => by have := madeTo_le H hP hu hv h0 z; have := H.few; omega
theorem mu_lt {L : List (List Int)} {p : List Int} {z v : Nat} (h : muI L p z v ≠ 0) : lenA L z < lenA L v := by
  rcases Nat.lt_or_ge (lenA L z) (lenA L v) with h1 | h1
  · exact h1
  · exact absurd (if_pos (.inl h1)) h
set_option maxRecDepth 100000 in
set_option maxHeartbeats 4000000 in
theorem impl_made_ok (k gl cl gt ct gp cp N n u v : Nat) (L T : List (List Int)) (P : List (List (List Int))) (w : World) (H : KlOk n N L T) (hF : KzF w k gl cl gt ct gp cp N) (hgl : gl < w.heap.size) (hgt : gt < w.heap.size) (hgp : gp < w.heap.size)
    (hL : Rows2 w gl 0 L) (hT : Rows2 w gt 0 T) (hK : Known P N v 0) (hP : ∀ i j, i < N → j < v → PolAt w gp N i j (pol P i j)) (hu : u < N) (hv : v < N) :
    Calls Tryz.prog 88 #[.pointer (some ⟨k, 0, none⟩), .int .i64 (u : Int), .int .i64 (v : Int)] w (GotInts w (madeI L T P u v)) := by
  by_cases huv : u = v
  · have e : madeI L T P u v = [1] := if_pos huv
    rw [e]
    have d1 : ((u : Int) == (v : Int)) = true := by rw [beq_iff_eq]; omega
    clear hL hT hK hP H hF e huv
    go_enter Tryz.func88, Tryz.ntmps88
    go_wp2_with fail
    go_ret
    exact GotInts.mk' _ _ rfl (Own.new _ (Nat.le_refl _)) ((Below.refl _ _).alloc (Nat.le_refl _) _)
  have d1 : ((u : Int) == (v : Int)) = false := by rw [beq_eq_false_iff_ne]; omega
  have d1' : (u == v) = false := by rw [beq_eq_false_iff_ne]; exact huv
  obtain ⟨gv, ov, cv, l1, -, -, lv4⟩ := hL v (by rw [H.len]; exact hv)
  obtain ⟨gu, ou, cu, l2, -, -, -⟩ := hL u (by rw [H.len]; exact hu)
  change w.cell? _ = some (Value.slice (some ⟨_, _, none⟩) (lenA L v) _) at l1
  change w.cell? _ = some (Value.slice (some ⟨_, _, none⟩) (lenA L u) _) at l2
  rw [Nat.zero_add] at l1 l2
  have f0 := hF.f0
  by_cases hle : lenA L v ≤ lenA L u
  · have e : madeI L T P u v = [] := by unfold madeI; rw [if_neg huv, if_pos hle]
    rw [e]
    generalize lenA L v = a at *
    generalize lenA L u = b at *
    clear hL hT hK hP H hF e lv4
    go_enter Tryz.func88, Tryz.ntmps88
    go_wp2_with fail
    go_quiet (fail)
    go_wp2_with fail
    go_ret
    exact GotInts.mk' _ _ rfl (Own.empty (Nat.le_refl _)) (by repeat (first | with_reducible exact Below.refl _ _ | with_reducible assumption | with_reducible refine below_drewN ?_ _ | with_reducible refine Below.drew ?_ | (with_reducible refine Below.alloc ?_ ?_ _; rotate_left; · first | (simp; done) | (simp; omega) | exact Below.size (by assumption) | (have hsz := Below.size (by assumption : Below _ _ _); simp at hsz ⊢; omega)) | (with_reducible refine Below.setCell ?_ ?_ _; rotate_left; · first | (simp; done) | (simp; omega))))
  have hv0 : v ≠ 0 := fun e => by
    subst e
    obtain ⟨-, -, -, h4⟩ := H.head u hu huv
    exact hle (h4 0 (by omega))
  obtain ⟨hh1, hh2, hh3, hh4⟩ := H.head v hv hv0
  have hX := madOk H hK hu hv hv0
  have e : madeI L T P u v = madeTo L T P u v N := by unfold madeI; rw [if_neg huv, if_neg hle, H.len]
  rw [e]
  have lv5 := lv4 0 hh1
  rw [H.letter v hv hv0, Nat.add_zero] at lv5
  obtain ⟨g2, o2, c2, t1, -, -, t4⟩ := hT v (by rw [H.tlen]; exact hv)
  have t5 := t4 (headA L v) (by rw [H.row v hv]; exact hh2)
  rw [(H.tab v (headA L v) hv hh2).1] at t5
  rw [H.row v hv] at t1
  obtain ⟨g3, o3, c3, r1, -, -, r4⟩ := hT u (by rw [H.tlen]; exact hu)
  have r5 := r4 (headA L v) (by rw [H.row u hu]; exact hh2)
  obtain ⟨hx1, hx2⟩ := H.tab u (headA L v) hu hh2
  rw [hx1] at r5
  rw [H.row u hu] at r1
  rw [Nat.zero_add] at t1 r1
  have hlz : ∀ z, lenA L z ≤ 24 := H.short
  have hzv : ∀ z, z < N → lenA L z < lenA L (tabA T v (headA L v)) → z < v ∧ lenA L z < lenA L v := fun z hz h => by
    have h1 := hh4 _ hh3
    refine ⟨?_, by omega⟩
    rcases Nat.lt_or_ge z v with h2 | h2
    · exact h2
    · by_cases h3 : z = v
      · subst h3; omega
      · obtain ⟨-, -, -, h5⟩ := H.head z hz (by omega)
        have := h5 v (by omega)
        omega
  have hN24 := H.few
  generalize madeTo L T P u v = Z at *
  generalize hWW : tabA T v (headA L v) = V at *
  generalize hss : headA L v = s at *
  have Hsh := Lib.hid (fun (x : Nat) (hx : x < N) (Wd : World) (hb : Below w.heap.size w Wd) => impl_shorter_ok k gl cl gt ct gp cp N n s x L T Wd H (hF.below hb) (hL.below hb hgl) (hT.below hb hgt) hh2 hx)
  have Hmu := Lib.hid (fun (z : Nat) (hz : z < N) (Wd : World) (hb : Below w.heap.size w Wd) => impl_mu_ok k gl cl gt ct gp cp N n z V L T (pol P z V) Wd H (hF.below hb) (hL.below hb hgl) hz (Nat.lt_trans hh3 hv) (fun _ => (hP z V hz hh3).below hgp hb))
  have Hlen := Lib.hid (fun (z : Nat) (hz : z < N) => hL z (by rw [H.len]; exact hz))
  have HP := Lib.hid hP
  have Hpl := Lib.hid (fun (i j : Nat) (hi : i < N) (hj : j < v) => hK i j hi (.inl hj))
  have HX := Lib.hid hX
  have hkl := hF.lt
  have f1 := hF.f1
  have f3 := hF.f3
  have Hzv := Lib.hid hzv
  have Hlz := Lib.hid hlz
  clear hL hT hP hK hX H hF lv4 t4 r4 hWW hss hx1 hzv hlz e hh4
  obtain ⟨x, hxx⟩ : ∃ x, tabA T u s = x := ⟨_, rfl⟩
  rw [hxx] at r5 hx2
  have q0 := HP.out x V hx2 hh3
  have q1 := HP.out u V hu hh3
  have y0 := Hpl.out x V hx2 hh3
  have y1 := Hpl.out u V hu hh3
  have hs0 := Hsh.out u hu
  have HS1 := Lib.hid HX.out.start1
  have HS2 := Lib.hid HX.out.start2
  rw [hxx] at HS1 HS2
  generalize pol P x V = p1 at *
  generalize pol P u V = p2 at *
  have Hyes := Lib.hid HX.out.yes
  have Hno1 := Lib.hid HX.out.no1
  have Hno2 := Lib.hid HX.out.no2
  have Hfew := Lib.hid HX.out.few
  clear HX
  have hB1 : ∀ nq : Nat, Below w.heap.size w (((w.drewN nq)).alloc (.cells #[] 3)) := fun nq => (by repeat (first | with_reducible exact Below.refl _ _ | with_reducible assumption | with_reducible refine below_drewN ?_ _ | with_reducible refine Below.drew ?_ | (with_reducible refine Below.alloc ?_ ?_ _; rotate_left; · first | (simp; done) | (simp; omega) | exact Below.size (by assumption) | (have hsz := Below.size (by assumption : Below _ _ _); simp at hsz ⊢; omega)) | (with_reducible refine Below.setCell ?_ ?_ _; rotate_left; · first | (simp; done) | (simp; omega))))
  obtain ⟨gx, cx, bx, dx, x1, x2, x3, x4, x5, x6⟩ := q0
  obtain ⟨gy, cy, by', dy, y1', y2', y3, y4, y5, y6⟩ := q1
  have hCl : ∀ W, Below w.heap.size w W → W.cell? ⟨k, 3, none⟩ = some (Value.slice (some ⟨gp, 0, none⟩) N cp) ∧ W.cell? ⟨gp, x, none⟩ = some (Value.slice (some ⟨gx, 0, none⟩) N cx) ∧ W.cell? ⟨gx, V, none⟩ = some (Value.slice (some ⟨bx, 0, none⟩) p1.length dx) ∧ W.cell? ⟨gp, u, none⟩ = some (Value.slice (some ⟨gy, 0, none⟩) N cy) ∧ W.cell? ⟨gy, V, none⟩ = some (Value.slice (some ⟨by', 0, none⟩) p2.length dy) := fun W hb =>
    ⟨(hb.cell (p := ⟨k, 3, none⟩) hkl).trans f3, (hb.cell (p := ⟨gp, x, none⟩) hgp).trans x1, (hb.cell (p := ⟨gx, V, none⟩) x4).trans x2, (hb.cell (p := ⟨gp, u, none⟩) hgp).trans y1', (hb.cell (p := ⟨gy, V, none⟩) y4).trans y2'⟩
  have HCl := Lib.hid hCl
  have hVN : V < N := Nat.lt_trans hh3 hv
  clear x1 x2 y1' y2' hCl
  go_enter Tryz.func88, Tryz.ntmps88
  go_wp2_with fail
  go_quiet (fail)
  generalize nq = q1 at *
  go_wp2_with fail
  go_quiet (fail)
  go_upto_region 8 with fail
  have hbE := hB1 (q1 + nq)
  generalize (w.drewN (q1 + nq)).alloc (.cells #[] 3) = wE at *
  clear hB1 d1 d1' huv hle
  have Hst := Lib.hid HCl
  have Hs0 := Lib.hid (hs0 wE hbE)
  go_wp2_with fail
  refine Hs0.out.mono ?_
  rintro e w1 ⟨rfl, hs1⟩
  have hX1 := below_still hbE hs1
  clear Hs0 hs0 hs1 hbE
  generalize shorter L T s u = sb at *
  go_upto_if 69 with fail
  go_cut [10] from 70 to 113 (fun pv wx => ∃ g c, pv = (Value.slice (some ⟨g, 0, none⟩) ((Z 0).length) c) ∧ Own wx w.heap.size g c (Z 0) ∧ Below w.heap.size w wx)
  case first =>
    cases sb with
    | true =>
      have HZ := Lib.hid (HS1.out rfl)
      have K1 := Lib.hid (fun (W : World) (hb : Below w.heap.size w W) => show Calls Tryz.prog 64 #[(Value.slice (some ⟨by', 0, none⟩) p2.length dy), .int .i64 1] W (GotInts W (shI p2 1)) from impl_shifted_any by' 0 p2.length dy 1 p2 W rfl (by omega) y3 (by omega) (Nat.lt_of_lt_of_le y5 hb.size) (y6.below hb y5))
      have K2 := Lib.hid (fun (W : World) (gA cA : Nat) (hb : Below w.heap.size w W) (hA : Own W w.heap.size gA cA (shI p2 1)) => impl_AddPoly_any bx 0 p1.length dx gA 0 (shI p2 1).length cA p1 (shI p2 1) W rfl rfl (by omega) (by have := shI_le p2 1; omega) (Nat.lt_of_lt_of_le x5 hb.size) hA.lt (x6.below hb x5) hA.cells)
      generalize shI p2 1 = A at *
      generalize addP p1 A = R at *
      clear HS1 HS2
      go_wp2_with fail
      have hd1 : Below w.heap.size w w1.drew := Below.drew hX1
      go_region_held3 (fun W => W.cell? ⟨k, 3, none⟩ = some (Value.slice (some ⟨gp, 0, none⟩) N cp) ∧ W.cell? ⟨gp, x, none⟩ = some (Value.slice (some ⟨gx, 0, none⟩) N cx) ∧ W.cell? ⟨gx, V, none⟩ = some (Value.slice (some ⟨bx, 0, none⟩) p1.length dx) ∧ W.cell? ⟨gp, u, none⟩ = some (Value.slice (some ⟨gy, 0, none⟩) N cy) ∧ W.cell? ⟨gy, V, none⟩ = some (Value.slice (some ⟨by', 0, none⟩) p2.length dy))
        (first | with_reducible exact HCl.out _ hd1 | with_reducible exact HCl.out _ hXA | with_reducible exact HCl.out _ hXB)
        (first
          | (go_at_call 64; (with_reducible refine (K1.out _ hd1).mono ?_); rintro e wA ⟨gA, cA, rfl, hoA, hbA⟩; have hXA := hd1.trans (hbA.mono hd1.size))
          | (go_at_call 63; (with_reducible refine (K2.out _ gA cA hXA (hoA.mono hd1.size)).mono ?_); rintro e wB ⟨gB, cB, rfl, hoB, hbB⟩; have hXB := hXA.trans (hbB.mono hXA.size)))
      rw [← HZ.out] at hoB
      go_wp2_with fail
      go_meet
      exact ⟨gB, cB, by rw [HZ.out], hoB.mono hXA.size, hXB⟩
    | false =>
      have HZ := Lib.hid (HS2.out rfl)
      have K1 := Lib.hid (fun (W : World) (hb : Below w.heap.size w W) => show Calls Tryz.prog 64 #[(Value.slice (some ⟨bx, 0, none⟩) p1.length dx), .int .i64 1] W (GotInts W (shI p1 1)) from impl_shifted_any bx 0 p1.length dx 1 p1 W rfl (by omega) x3 (by omega) (Nat.lt_of_lt_of_le x5 hb.size) (x6.below hb x5))
      have K2 := Lib.hid (fun (W : World) (gA cA : Nat) (hb : Below w.heap.size w W) (hA : Own W w.heap.size gA cA (shI p1 1)) => impl_AddPoly_any gA 0 (shI p1 1).length cA by' 0 p2.length dy (shI p1 1) p2 W rfl rfl (by have := shI_le p1 1; omega) (by omega) hA.lt (Nat.lt_of_lt_of_le y5 hb.size) hA.cells (y6.below hb y5))
      generalize shI p1 1 = A at *
      generalize addP A p2 = R at *
      clear HS1 HS2
      go_wp2_with fail
      have hd1 : Below w.heap.size w w1.drew := Below.drew hX1
      go_region_held3 (fun W => W.cell? ⟨k, 3, none⟩ = some (Value.slice (some ⟨gp, 0, none⟩) N cp) ∧ W.cell? ⟨gp, x, none⟩ = some (Value.slice (some ⟨gx, 0, none⟩) N cx) ∧ W.cell? ⟨gx, V, none⟩ = some (Value.slice (some ⟨bx, 0, none⟩) p1.length dx) ∧ W.cell? ⟨gp, u, none⟩ = some (Value.slice (some ⟨gy, 0, none⟩) N cy) ∧ W.cell? ⟨gy, V, none⟩ = some (Value.slice (some ⟨by', 0, none⟩) p2.length dy))
        (first | with_reducible exact HCl.out _ hd1 | with_reducible exact HCl.out _ hXA | with_reducible exact HCl.out _ hXB)
        (first
          | (go_at_call 64; (with_reducible refine (K1.out _ hd1).mono ?_); rintro e wA ⟨gA, cA, rfl, hoA, hbA⟩; have hXA := hd1.trans (hbA.mono hd1.size))
          | (go_at_call 63; (with_reducible refine (K2.out _ gA cA hXA (hoA.mono hd1.size)).mono ?_); rintro e wB ⟨gB, cB, rfl, hoB, hbB⟩; have hXB := hXA.trans (hbB.mono hXA.size)))
      rw [← HZ.out] at hoB
      go_wp2_with fail
      go_meet
      exact ⟨gB, cB, by rw [HZ.out], hoB.mono hXA.size, hXB⟩
  case rest =>
    obtain ⟨g0, c0, rfl, ho0, hb0⟩ := hcut
    have f0c := (hb0.cell (p := ⟨k, 0, none⟩) hkl).trans f0
    clear HS1 HS2 HCl Hst hX1 x3 x4 x5 x6 y3 y4 y5 y6 y0 y1 q1
    go_wp2_with fail
    go_loopw [10, 11, 12, 13, 119] (fun pv _ _ _ zv wr => ∃ z g c, z ≤ N ∧ zv = .int .i64 (z : Nat) ∧ pv = (Value.slice (some ⟨g, 0, none⟩) ((Z z).length) c) ∧ Own wr w.heap.size g c (Z z) ∧ Below w.heap.size w wr) (fun _ _ _ _ zv _ => N - (intOf zv).toNat)
    case atStart => exact ⟨0, g0, c0, Nat.zero_le _, rfl, rfl, ho0, hb0⟩
    case round =>
      clear ho0 hb0 f0c
      obtain ⟨z, g, c, hz, rfl, rfl, ho, hb⟩ := hrel
      by_cases hlt : z < N
      · have hm := Hmu.out z hlt wr hb
        have hyes := Hyes.out z
        have hno1 := Hno1.out z
        have hzv := fun h => Hzv.out z hlt (mu_lt (p := pol P z V) (v := V) h)
        generalize muI L (pol P z V) z V = mz at *
        have Hm := Lib.hid hm
        clear hm
        by_cases hm0 : mz = 0
        · have hn := Lib.hid (hno1 hm0)
          have e0 : (mz == 0) = true := by rw [beq_iff_eq]; exact hm0
          clear hyes hno1 hzv hm0
          go_wp2_with fail
          refine Hm.out.mono ?_
          rintro e w2 ⟨rfl, hs2⟩
          have hb2 := below_still hb hs2
          have ho2 := ho.still hs2
          clear hs2 hb ho Hm
          go_wp2_with fail
          go_roundw
          case rel => exact ⟨z + 1, g, c, by omega, by go_num, by rw [hn.out], by rw [hn.out]; exact ho2, hb2⟩
          case measure => simp [intOf]; omega
        · have e0 : (mz == 0) = false := by rw [beq_eq_false_iff_ne]; exact hm0
          obtain ⟨hzv1, hzv2⟩ := hzv hm0
          have hyes := hyes hm0
          have hno2 := Hno2.out z
          have Hs := Lib.hid (fun (W : World) (h : Below w.heap.size w W) => Hsh.out z hlt W h)
          generalize shorter L T s z = sb at *
          cases sb with
          | false =>
            have hn := Lib.hid (hno2 rfl)
            clear hyes hno1 hno2 hm0
            go_wp2_with fail
            refine Hm.out.mono ?_
            rintro e w2 ⟨rfl, hs2⟩
            have hb2 := below_still hb hs2
            have ho2 := ho.still hs2
            clear hs2 hb ho Hm
            go_wp2_with fail
            refine (Hs.out w2 hb2).mono ?_
            rintro e w3 ⟨rfl, hs3⟩
            have hb3 := below_still hb2 hs3
            have ho3 := ho2.still hs3
            clear hs3 hb2 ho2 Hs
            go_wp2_with fail
            go_roundw
            case rel => exact ⟨z + 1, g, c, by omega, by go_num, by rw [hn.out], by rw [hn.out]; exact ho3, hb3⟩
            case measure => simp [intOf]; omega
          | true =>
            have hn := Lib.hid (hyes rfl)
            clear hyes hno1 hno2 hm0
            go_wp2_with fail
            refine Hm.out.mono ?_
            rintro e w2 ⟨rfl, hs2⟩
            have hb2 := below_still hb hs2
            have ho2 := ho.still hs2
            clear hs2 hb ho Hm
            go_wp2_with fail
            refine (Hs.out w2 hb2).mono ?_
            rintro e w3 ⟨rfl, hs3⟩
            have hb3 := below_still hb2 hs3
            have ho3 := ho2.still hs3
            clear hs3 hb2 ho2 Hs
            obtain ⟨gz, oz, cz, z1, -, -, -⟩ := Hlen.out z hlt
            change w.cell? _ = some (Value.slice (some ⟨_, _, none⟩) (lenA L z) _) at z1
            rw [Nat.zero_add] at z1
            obtain ⟨gq, cq, bq, dq, p1, p2, p3, p4, p5, p6⟩ := HP.out u z hu hzv1
            have hql := Hpl.out u z hu hzv1
            have m1 := (hb3.cell (p := ⟨gl, z, none⟩) hgl).trans z1
            have m2 := (hb3.cell (p := ⟨gl, v, none⟩) hgl).trans l1
            have m3 := (hb3.cell (p := ⟨k, 0, none⟩) hkl).trans f0
            have m4 := (hb3.cell (p := ⟨k, 3, none⟩) hkl).trans f3
            have m5 := (hb3.cell (p := ⟨gp, u, none⟩) hgp).trans p1
            have m6 := (hb3.cell (p := ⟨gq, z, none⟩) p4).trans p2
            have hv24 := Hlz.out v
            have hz24 := Hlz.out z
            have hfz := Hfew.out z
            clear z1 p1 p2
            have Hn := Lib.hid hn.out
            clear hn
            obtain ⟨D, hD⟩ : ∃ D, lenA L v = lenA L z + D := ⟨lenA L v - lenA L z, by omega⟩
            rw [hD] at m2 Hn hv24
            have eD0 : lenA L z + D - lenA L z = D := by omega
            rw [eD0] at Hn
            obtain ⟨h, hh⟩ : ∃ h, D / 2 = h := ⟨_, rfl⟩
            rw [hh] at Hn
            have hh24 : h ≤ 24 := by omega
            have eh : (D : Int) / 2 = (h : Int) := by omega
            have eh2 : (D : Int).tdiv 2 = (h : Int) := by rw [← eh]; exact Int.tdiv_eq_ediv_of_nonneg (by omega)
            clear hh hD eD0 hzv2
            generalize lenA L z = b at *
            have eD2 : (b : Int) + (D : Int) - (b : Int) = (D : Int) := by omega
            have ewD : IntKind.i64.wrap (D : Int) = (D : Int) := IntWalk.i64_in _ (by omega)
            have K1 := Lib.hid (fun (W : World) (hb : Below w.heap.size w W) => show Calls Tryz.prog 64 #[(Value.slice (some ⟨bq, 0, none⟩) ((pol P u z).length) dq), .int .i64 (h : Int)] W (GotInts W (shI (pol P u z) h)) from impl_shifted_any bq 0 (pol P u z).length dq h (pol P u z) W rfl (by omega) p3 (by omega) (Nat.lt_of_lt_of_le p5 hb.size) (p6.below hb p5))
            have hsl := shI_le (pol P u z) h
            generalize shI (pol P u z) h = A at *
            generalize (pol P u z).length = lq at *
            have hml := mul_length_le [mz] A
            have K2 := Lib.hid (fun (W : World) (gM gA cA : Nat) (hM : Own W w.heap.size gM 1 [mz]) (hA : Own W w.heap.size gA cA A) => show Calls Tryz.prog 129 #[(Value.slice (some ⟨gM, 0, none⟩) 1 1), (Value.slice (some ⟨gA, 0, none⟩) A.length cA)] W (GotInts W (mul [mz] A)) from impl_MulPoly_any gM 0 1 1 gA 0 A.length cA [mz] A W rfl rfl (by simp) (by omega) hM.lt hA.lt hM.cells hA.cells)
            generalize mul [mz] A = M at *
            have K3 := Lib.hid (fun (W : World) (g1 c1 gM cM : Nat) (h1 : Own W w.heap.size g1 c1 (Z z)) (hM : Own W w.heap.size gM cM M) => show Calls Tryz.prog 128 #[(Value.slice (some ⟨g1, 0, none⟩) ((Z z).length) c1), (Value.slice (some ⟨gM, 0, none⟩) M.length cM)] W (GotInts W (subP' (Z z) M)) from impl_SubPoly_any g1 0 (Z z).length c1 gM 0 M.length cM (Z z) M W rfl rfl (by omega) (by omega) h1.lt hM.lt h1.cells hM.cells)
            obtain ⟨R, hR⟩ : ∃ R, subP' (Z z) M = R := ⟨_, rfl⟩
            rw [hR] at Hn
            go_wp2_with fail
            go_quiet (fail)
            have hb4 : Below w.heap.size w (w3.drewN nq) := below_drewN hb3 nq
            have ho4 : Own (w3.drewN nq) w.heap.size g c (Z z) := ho3
            generalize w3.drewN nq = w4 at *
            have hb5 : Below w.heap.size w (w4.alloc (.cells #[.int .i64 mz] 3)) := hb4.alloc hb4.size _
            have hoM : Own (w4.alloc (.cells #[.int .i64 mz] 3)) w.heap.size w4.heap.size 1 [mz] := Own.new mz hb4.size
            have ho5 := ho4.alloc (.cells #[.int .i64 mz] 3)
            have n4 := (hb5.cell (p := ⟨k, 3, none⟩) hkl).trans f3
            have n5 : (w4.alloc (.cells #[.int .i64 mz] 3)).cell? ⟨gp, u, none⟩ = some (Value.slice (some ⟨gq, 0, none⟩) N cq) := by
              rw [← m5]; exact (hb5.cell (p := ⟨gp, u, none⟩) hgp).trans (hb3.cell (p := ⟨gp, u, none⟩) hgp).symm
            have n6 : (w4.alloc (.cells #[.int .i64 mz] 3)).cell? ⟨gq, z, none⟩ = some (Value.slice (some ⟨bq, 0, none⟩) lq dq) := by
              rw [← m6]; exact (hb5.cell (p := ⟨gq, z, none⟩) p4).trans (hb3.cell (p := ⟨gq, z, none⟩) p4).symm
            clear m1 m2 m3 m4 m5 m6 hb4 ho4
            go_wp2_with fail
            refine (K1.out _ hb5).mono ?_
            rintro e w6 ⟨g6, c6, rfl, ho6, hb6⟩
            have hb6' := hb5.trans (hb6.mono hb5.size)
            have hoM6 := hoM.below hb6 hoM.lt
            have ho56 := ho5.below hb6 ho5.lt
            have ho6' := ho6.mono hb5.size
            clear hb6 hb5 hoM ho5 ho6 K1 n4 n5 n6
            go_wp2_with fail
            refine (K2.out w6 _ g6 c6 hoM6 ho6').mono ?_
            rintro e w7 ⟨g7, c7, rfl, ho7, hb7⟩
            have hb7' := hb6'.trans (hb7.mono hb6'.size)
            have ho57 := ho56.below hb7 ho56.lt
            have ho7' := ho7.mono hb6'.size
            clear hb7 hb6' hoM6 ho56 ho6' ho7 K2
            go_wp2_with fail
            refine (K3.out w7 g c g7 c7 ho57 ho7').mono ?_
            rintro e w8 ⟨g8, c8, rfl, ho8, hb8⟩
            have hb8' := hb7'.trans (hb8.mono hb7'.size)
            have ho8' := ho8.mono hb7'.size
            clear hb8 hb7' ho57 ho7' ho8 K3
            rw [hR] at ho8' ⊢
            go_wp2_with fail
            go_roundw
            case rel => exact ⟨z + 1, g8, c8, by omega, by go_num, by rw [Hn.out], by rw [Hn.out]; exact ho8', hb8'⟩
            case measure => simp [intOf]; omega
      · obtain rfl : z = N := by omega
        go_wp2_with fail
        go_ret
        exact ⟨g, c, rfl, ho, hb⟩
end Go.Proofs.YtdedkfbiookofaaGreatDoor
