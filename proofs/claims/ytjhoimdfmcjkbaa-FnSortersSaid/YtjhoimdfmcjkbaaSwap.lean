/- SwapWord: contracts. -/
import Derived.Test.YtjhoimdfmcjkbaaNet
import Derived.Test.YtjhoimdfmcjkbaaBase
import Derived.Test.YtjhoimdfmcjkbaaSwapM
namespace Go.Proofs.Ytjhoimdfmcjkbaa
set_option maxRecDepth 100000
open Go.RowKit

set_option maxHeartbeats 400000 in
theorem spec_l3Has_any (g o n c : Nat) (xs : List Int) (x : Int) (w : World) (hn : xs.length = n) (hx : xs.length ≤ 1099511627776) (hc : Cells w g o xs) :
    Calls Try.prog 60 #[(Value.slice (some ⟨g, o, none⟩) n c), .int .i64 x] w (Reads w (.bool (decide (x ∈ xs)))) := by
  subst hn
  go_enter Try.func60, Try.ntmps60
  go_wp2
  go_loopw [5] (fun i wr => ∃ k : Nat, k ≤ xs.length ∧ i = .int .i64 k ∧ Hid (∀ j (hj : j < xs.length), j < k → xs[j] ≠ x) ∧ ∃ m, wr = w.drewN m) (fun i _ => xs.length - (intOf i).toNat)
  case atStart => exact ⟨0, Nat.zero_le _, rfl, fun j _ h => absurd h (by omega), 0, rfl⟩
  case round =>
    obtain ⟨k, hk, rfl, hp, m, rfl⟩ := hrel
    by_cases hlt : k < xs.length
    · have c1 := hc k hlt
      by_cases he : xs[k] = x
      · have d : (xs[k] == x) = true := by simpa using he
        have He := Lib.hid he; clear he
        go_wp2
        go_ret
        exact ⟨ret_bool (by simp; exact He.out ▸ List.getElem_mem hlt), m, rfl⟩
      · have d : (xs[k] == x) = false := by simpa using he
        have He := Lib.hid he; clear he
        go_wp2
        go_roundw
        case rel => exact ⟨k + 1, by omega, by go_num, fun j hj hjk => if e : j = k then by subst e; exact He.out else hp.out j hj (by omega), m, rfl⟩
        case measure => simp [intOf]; omega
    · obtain rfl : k = xs.length := by omega
      go_wp2
      go_ret
      refine ⟨ret_bool ?_, m, rfl⟩
      have : x ∉ xs := fun h => by obtain ⟨j, hj, e⟩ := List.getElem_of_mem h; exact hp.out j hj hj e
      simp [this]

theorem Reads.quiet2' {f : FuncId} {args : Array Value} {w : World} {m n : Nat} {v : Value} (h : Calls Try.prog f args (w.drewN (m + n)) (Reads (w.drewN (m + n)) v)) :
    Calls Try.prog f args (w.drewN (m + n)) fun e w'' => e = .returned v ∧ ∃ k, w'' = w.drewN (m + k) :=
  h.mono fun _ _ ⟨he, k, hk⟩ => ⟨he, n + k, by rw [hk, World.drewN_drewN, Nat.add_assoc]⟩

theorem permUpto_in {p : List Int} {k : Nat} (hk : k < p.length) (h : permUpto p k = true) (h1 : 0 ≤ p[k] ∧ p[k] ≤ (p.length : Int) - 1) (h2 : p[k] ∉ p.take k) : permUpto p (k + 1) = true := by
  have e : p.getD k 0 = p[k] := by simp [List.getD, hk]
  simp only [permUpto, e, h, Bool.true_and, Bool.and_eq_true, decide_eq_true_eq, Bool.not_eq_true', decide_eq_false_iff_not]
  exact ⟨⟨h1.1, by omega⟩, h2⟩
theorem permUpto_out {p : List Int} {k : Nat} (hk : k < p.length) (h1 : ¬ (0 ≤ p[k] ∧ p[k] ≤ (p.length : Int) - 1)) : permUpto p p.length = false := by
  refine permUpto_false (k := k + 1) ?_ hk
  have e : p.getD k 0 = p[k] := by simp [List.getD, hk]
  have : decide (0 ≤ p[k] ∧ p[k] < (p.length : Int)) = false := by rw [decide_eq_false_iff_not]; omega
  simp only [permUpto, e, this, Bool.false_and, Bool.and_false]
theorem permUpto_twice {p : List Int} {k : Nat} (hk : k < p.length) (h2 : p[k] ∈ p.take k) : permUpto p p.length = false := by
  refine permUpto_false (k := k + 1) ?_ hk
  have e : p.getD k 0 = p[k] := by simp [List.getD, hk]
  have : decide (p[k] ∈ p.take k) = true := by rw [decide_eq_true_eq]; exact h2
  simp only [permUpto, e, this, Bool.not_true, Bool.and_false]

set_option maxHeartbeats 1000000 in
theorem spec_l33Permutation_any (g o n c : Nat) (p : List Int) (w : World) (hn : p.length = n) (hx : p.length ≤ 1099511627776) (hcap : n ≤ c) (hc : Cells w g o p) :
    Calls Try.prog 46 #[(Value.slice (some ⟨g, o, none⟩) n c)] w (Reads w (.bool (permB p))) := by
  subst hn
  have e0 : IntKind.i64.wrap ((p.length : Int) - 1) = (p.length : Int) - 1 := IntWalk.i64_in _ (by omega)
  go_enter Try.func46, Try.ntmps46
  go_wp2
  go_loopw [3] (fun i wr => ∃ k : Nat, k ≤ p.length ∧ i = .int .i64 k ∧ Hid (permUpto p k = true) ∧ ∃ m, wr = w.drewN m) (fun i _ => p.length - (intOf i).toNat)
  case atStart => exact ⟨0, Nat.zero_le _, rfl, rfl, 0, rfl⟩
  case round =>
    obtain ⟨k, hk, rfl, hp, m, rfl⟩ := hrel
    by_cases hlt : k < p.length
    · have q1 := hc k hlt
      by_cases hin : 0 ≤ p[k] ∧ p[k] ≤ (p.length : Int) - 1
      · have hq1 : Hid (∀ j, Calls Try.prog 52 #[.int .i64 p[k], .int .i64 0, .int .i64 ((p.length : Int) - 1)] (w.drewN (m + j)) (Reads (w.drewN (m + j)) (.bool true))) := by
          intro j
          have := spec_l1In_any p[k] 0 ((p.length : Int) - 1) (w.drewN (m + j))
          rwa [decide_eq_true hin] at this
        have Hin := Lib.hid hin; clear hin
        by_cases hmem : p[k] ∈ p.take k
        · have hq2 : Hid (∀ j c', Calls Try.prog 60 #[(Value.slice (some ⟨g, o, none⟩) k c'), .int .i64 p[k]] (w.drewN (m + j)) (Reads (w.drewN (m + j)) (.bool true))) := by
            intro j c'
            have := spec_l3Has_any g o k c' (p.take k) p[k] (w.drewN (m + j)) (by rw [List.length_take]; omega) (by rw [List.length_take]; omega) (hc.take k)
            rwa [decide_eq_true hmem] at this
          have Hmem := Lib.hid hmem; clear hmem
          go_wp2
          go_quiet ((first | (go_at_call 52; exact Reads.quiet2' (hq1.out _)) | (go_at_call 60; exact Reads.quiet2' (hq2.out _ _))))
          go_wp2
          go_ret
          exact ⟨ret_bool (by rw [permB, permUpto_twice hlt Hmem.out, Bool.and_false]), (by first | exact ⟨_, rfl⟩ | exact ⟨0, rfl⟩ | exact still2 _ _ _ | exact still3 _ _ _ _)⟩
        · have hq2 : Hid (∀ j c', Calls Try.prog 60 #[(Value.slice (some ⟨g, o, none⟩) k c'), .int .i64 p[k]] (w.drewN (m + j)) (Reads (w.drewN (m + j)) (.bool false))) := by
            intro j c'
            have := spec_l3Has_any g o k c' (p.take k) p[k] (w.drewN (m + j)) (by rw [List.length_take]; omega) (by rw [List.length_take]; omega) (hc.take k)
            rwa [decide_eq_false hmem] at this
          have Hmem := Lib.hid hmem; clear hmem
          go_wp2
          go_quiet ((first | (go_at_call 52; exact Reads.quiet2' (hq1.out _)) | (go_at_call 60; exact Reads.quiet2' (hq2.out _ _))))
          go_wp2
          go_roundw
          case rel => exact ⟨k + 1, by omega, by go_num, permUpto_in hlt hp.out Hin.out Hmem.out, (by first | exact ⟨_, rfl⟩ | exact ⟨0, rfl⟩ | exact still2 _ _ _ | exact still3 _ _ _ _)⟩
          case measure => simp [intOf]; omega
      · have hq1 : Hid (∀ j, Calls Try.prog 52 #[.int .i64 p[k], .int .i64 0, .int .i64 ((p.length : Int) - 1)] (w.drewN (m + j)) (Reads (w.drewN (m + j)) (.bool false))) := by
          intro j
          have := spec_l1In_any p[k] 0 ((p.length : Int) - 1) (w.drewN (m + j))
          rwa [decide_eq_false hin] at this
        have Hin := Lib.hid hin; clear hin
        go_wp2
        go_quiet ((go_at_call 52; exact Reads.quiet2' (hq1.out _)))
        go_wp2
        go_ret
        exact ⟨ret_bool (by rw [permB, permUpto_out hlt Hin.out, Bool.and_false]), (by first | exact ⟨_, rfl⟩ | exact ⟨0, rfl⟩ | exact still2 _ _ _ | exact still3 _ _ _ _)⟩
    · obtain rfl : k = p.length := by omega
      go_wp2_with fail
      refine (spec_l1In_any _ _ _ _).mono ?_
      rintro e w' ⟨rfl, m', rfl⟩
      go_wp2_with fail
      go_ret
      refine ⟨ret_bool ?_, (by first | exact ⟨_, rfl⟩ | exact ⟨0, rfl⟩ | exact still2 _ _ _ | exact still3 _ _ _ _)⟩
      rw [permB, hp.out, Bool.and_true]
      by_cases h5 : 1 ≤ p.length ∧ p.length ≤ 5
      · rw [decide_eq_true h5]; simp; omega
      · rw [decide_eq_false h5]; simp; omega

/-- the slice at the head of block g was made by the call and holds these bools -/
def OwnB (w : World) (B g cap : Nat) (bs : List Bool) : Prop := w.ownsRow B 4 1 (Value.slice (some ⟨g, 0, none⟩) bs.length cap) bs.length (bs.map Value.bool)
theorem OwnB.base {w : World} {B g cap : Nat} {xs : List Bool} (h : OwnB w B g cap xs) : B ≤ g := (World.ownsRow.lt h g rfl).1
theorem OwnB.cell {w : World} {B g cap : Nat} {xs : List Bool} (h : OwnB w B g cap xs) (j : Nat) (hj : j < xs.length) : w.cell? ⟨g, j, none⟩ = some (.bool xs[j]) := by
  rw [World.ownsRow.cellAt h j (by omega)]
  simp [hj]
theorem OwnB.frozen {w : World} {B g cap : Nat} {xs : List Bool} (h : OwnB w B g cap xs) (j : Nat) : w.frozen? ⟨g, j, none⟩ = false := World.ownsRow.frozenAt h j
theorem OwnB.set {w : World} {B g cap : Nat} {xs : List Bool} (h : OwnB w B g cap xs) (j : Nat) (b : Bool) :
    OwnB (w.setCell ⟨g, j, none⟩ (.bool b)) B g cap (xs.set j b) ∧ w.grownBy (w.setCell ⟨g, j, none⟩ (.bool b)) (some g) := by
  have := World.ownsRow.stored h j (.bool b)
  refine ⟨?_, this.2⟩
  unfold OwnB
  rw [List.length_set, List.map_set]
  exact this.1
theorem info4 : (Try.prog.info? 4).map (fun i => (i.zero, i.size, i.bytes)) = some (some (.bool false), 1, 1) := by kernel_rfl
theorem wpList_make_bools {w : World} {ops : Array Oper} {rest : List Oper} {o : Oper} {a : Act} {Q : Exit → Act → World → Prop} (hgd : o.guard = none) (l c : Operand)
    (hop : o.op = Op.makeSlice 67 l c) (B n : Nat) (C : Int) (hC : C = (n : Int)) (hl : a.eval l = .int .i64 C) (hc : a.eval c = .int .i64 C) (hn : n ≤ 1099511627776) (hB : B ≤ w.heap.size)
    (h : ∀ w', OwnB w' B w.heap.size n (List.replicate n false) → w.grownBy w' none → wpList Try.prog ops Q rest (a.put o.dst (Value.slice (some ⟨w.heap.size, 0, none⟩) n n)) w') :
    wpList Try.prog ops Q (o :: rest) a w := by
  obtain ⟨i0, hi, hz0, hz1, hz2⟩ := info_parts info4
  refine wpList_make_full _ hgd l c 67 hop B 4 i0 (.bool false) 1 Try.underlying67 hi hz0 hz1 _ _ _ _ n hl hc hC hC (by rw [hz2]; omega) (by unfold maxLen; omega) hB ?_
  intro w' hown hgr
  refine h w' ?_ hgr
  unfold OwnB
  rw [List.length_replicate, List.map_replicate]
  have e : (madeCells (Value.bool false).cells (n * 1)).toList = List.replicate n (Value.bool false) := by
    rw [Nat.mul_one]; exact toList_madeCells_one _ _
  rw [← e]; exact hown

/-- which numbers have been met among the first k -/
def met (p : List Int) (k : Nat) : List Bool := (List.range p.length).map fun (v : Nat) => decide ((v : Int) ∈ p.take k)
theorem met_length (p : List Int) (k : Nat) : (met p k).length = p.length := by simp [met]
theorem met_zero (p : List Int) : met p 0 = List.replicate p.length false := by
  apply List.ext_getElem (by simp [met])
  intro i h1 h2
  simp [met]
theorem met_at {p : List Int} {k v : Nat} (hv : v < (met p k).length) : (met p k)[v] = decide ((v : Int) ∈ p.take k) := by simp [met]
theorem met_succ {p : List Int} {k v : Nat} (hk : k < p.length) (hv : p[k] = (v : Int)) : (met p k).set v true = met p (k + 1) := by
  apply List.ext_getElem (by simp [met])
  intro i h1 h2
  rw [List.getElem_set]
  have h3 : i < (met p k).length := by rw [met_length]; rw [met_length] at h2; exact h2
  rw [met_at h2, met_at h3, List.take_succ_eq_append_getElem hk, hv]
  by_cases e : v = i
  · subst e; simp
  · rw [if_neg e]
    have : (i : Int) ≠ (v : Int) := by omega
    simp [this]

set_option maxHeartbeats 1000000 in
theorem impl_isPermutation_any (g o n c : Nat) (p : List Int) (w : World) (hn : p.length = n) (hx : p.length ≤ 1099511627776) (hg : g < w.heap.size) (hc : Cells w g o p) :
    Calls Try.prog 45 #[(Value.slice (some ⟨g, o, none⟩) n c)] w (Gives w (.bool (permB p))) := by
  subst hn
  by_cases h1 : p.length < 1
  · have d1 : decide ((p.length : Int) < 1) = true := by simp; omega
    go_enter Try.func45, Try.ntmps45
    go_wp2
    go_ret
    exact ⟨ret_bool (by rw [permB, decide_eq_false (by omega), Bool.false_and]), Below.refl _ _⟩
  have d1 : decide ((p.length : Int) < 1) = false := by simp; omega
  by_cases h2 : 5 < p.length
  · have d2 : decide ((5 : Int) < (p.length : Int)) = true := by simp; omega
    go_enter Try.func45, Try.ntmps45
    go_wp2
    go_ret
    exact ⟨ret_bool (by rw [permB, decide_eq_false (by omega), Bool.false_and]), Below.refl _ _⟩
  have d2 : decide ((5 : Int) < (p.length : Int)) = false := by simp; omega
  have h15 : permB p = permUpto p p.length := by rw [permB, decide_eq_true ⟨by omega, by omega⟩, Bool.true_and]
  rw [h15]
  clear h15
  go_enter Try.func45, Try.ntmps45
  go_wp2_with (at_make; refine wpList_make_bools rfl _ _ rfl w.heap.size p.length _ rfl rfl rfl hx (Nat.le_refl _) ?_)
  intro w1 hown hgr
  have hb1 := below_of_grown hgr
  rw [← met_zero] at hown
  clear hgr
  go_wp2
  go_loopw [19] (fun i wr => ∃ k : Nat, k ≤ p.length ∧ i = .int .i64 k ∧ Hid (permUpto p k = true) ∧ OwnB wr w.heap.size w.heap.size p.length (met p k) ∧ Below w.heap.size w wr) (fun i _ => p.length - (intOf i).toNat)
  case atStart => exact ⟨0, Nat.zero_le _, rfl, rfl, hown, hb1⟩
  case round =>
    obtain ⟨k, hk, rfl, hp, ho, hb⟩ := hrel
    by_cases hlt : k < p.length
    · have q1 := hc.below hb hg k hlt
      by_cases a1 : p[k] < 0
      · have d3 : decide (p[k] < 0) = true := by simpa using a1
        go_wp2
        go_ret
        exact ⟨ret_bool (permUpto_out hlt (by omega)).symm, hb⟩
      have d3 : decide (p[k] < 0) = false := by simp; omega
      by_cases a2 : (p.length : Int) ≤ p[k]
      · have d4 : decide ((p.length : Int) ≤ p[k]) = true := by simpa using a2
        go_wp2
        go_ret
        exact ⟨ret_bool (permUpto_out hlt (by omega)).symm, hb⟩
      have d4 : decide ((p.length : Int) ≤ p[k]) = false := by simp; omega
      obtain ⟨v, hv⟩ : ∃ v : Nat, p[k] = (v : Int) := ⟨(p[k]).toNat, by omega⟩
      have hvl : v < p.length := by omega
      have hvm : v < (met p k).length := by rw [met_length]; exact hvl
      have q2 := ho.cell v hvm
      have f2 := ho.frozen v
      have q1' : p.getD k 0 = (v : Int) := by simp [List.getD, hlt, hv]
      rw [q1'] at q1
      rw [met_at] at q2
      clear q1'
      rw [hv] at a1 a2 d3 d4
      have Hv := Lib.hid hv; clear hv
      by_cases hmem : (v : Int) ∈ p.take k
      · rw [decide_eq_true hmem] at q2
        have Hm := Lib.hid hmem; clear hmem
        go_wp2
        go_ret
        exact ⟨ret_bool (permUpto_twice hlt (by rw [Hv.out]; exact Hm.out)).symm, hb⟩
      · rw [decide_eq_false hmem] at q2
        have Hm := Lib.hid hmem; clear hmem
        go_wp2
        go_roundw
        case rel =>
          have hs := ho.set v true
          rw [met_succ hlt Hv.out] at hs
          exact ⟨k + 1, by omega, by go_num, permUpto_in hlt hp.out (by rw [Hv.out]; omega) (by rw [Hv.out]; exact Hm.out), hs.1, hb.grown hs.2 hb.size (by intro j hj; cases hj; exact Nat.le_refl _)⟩
        case measure => simp [intOf]; omega
    · obtain rfl : k = p.length := by omega
      go_wp2
      go_ret
      exact ⟨ret_bool hp.out.symm, hb⟩
end Go.Proofs.Ytjhoimdfmcjkbaa
